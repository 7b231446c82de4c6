/- merkle.Verify; the reference's Verified. -/
import Derived.Test.YtdhaaeaacbnghaaMerkleW
namespace Go.Proofs.Ytdhaaeaacbnghaa
open Go.ChangeShapes Go.WideShapes Go.ChangeAt Go.RowKit Go.Mem Go.Mk
set_option linter.unusedVariables false

theorem xor_one (i : Nat) : i ^^^ 1 = sib i := by
  have h2 : sib i / 2 = i / 2 := by unfold sib; split <;> omega
  have h3 : sib i % 2 = 1 - i % 2 := by unfold sib; split <;> omega
  apply Nat.eq_of_testBit_eq
  intro j
  rw [Nat.testBit_xor]
  cases j with
  | zero =>
    rw [Nat.testBit_zero, Nat.testBit_zero, Nat.testBit_zero, h3]
    rcases (show i % 2 = 0 ∨ i % 2 = 1 by omega) with h | h <;> simp [h]
  | succ j =>
    rw [Nat.testBit_succ (sib i), h2, Nat.testBit_succ i, Nat.testBit_succ 1]
    simp
theorem bits_sib (i : Nat) (h : i < 4611686018427387904) : bits .xor .i64 (i : Int) 1 = (sib i : Nat) := by
  have hs : sib i ≤ i + 1 := by unfold sib; split <;> omega
  have h1 : (BitVec.ofInt 64 (i : Int)).toNat = i := by
    rw [BitVec.ofInt_natCast, BitVec.toNat_ofNat]; exact Nat.mod_eq_of_lt (by omega)
  show IntKind.i64.wrap ((BitVec.ofInt 64 (i : Int) ^^^ BitVec.ofInt 64 1).toNat : Int) = _
  rw [BitVec.toNat_xor, h1, show (BitVec.ofInt 64 1).toNat = 1 from rfl, xor_one, IntKind.wrap_i64]
  omega

set_option maxHeartbeats 4000000 in
theorem merkle_Verify (root leaf : Nat) (n i : Nat) (pr : List Int) (a : Option Addr) (cap : Nat) (hn1 : 1 ≤ n) (hn : n ≤ 4096) (hi : i < n) (hr : root < 18446744073709551616) (hlf : leaf < 18446744073709551616) (hpc : pr.length ≤ cap) (hc : cap ≤ 17592186044416) (hu : U64s pr) (w : World) (hin : IntsAt .u64 w a pr) :
    Calls Try.prog 74 #[.int .u64 root, .int .i64 n, .int .i64 i, .int .u64 leaf, .slice a pr.length cap] w fun e w' => e = .returned (.bool (decide (ver tieI n i leaf pr = some (root : Int)))) ∧ w = w' := by
  obtain ⟨V, hV⟩ : ∃ V, V = ver tieI n i leaf pr := ⟨_, rfl⟩
  rw [← hV]
  obtain ⟨m, hm⟩ : ∃ m, m = pr.length := ⟨_, rfl⟩
  rw [← hm] at hpc ⊢
  have HV := Lib.hid hV
  have HM := Lib.hid hm
  have HU := Lib.hid hu
  have HI := Lib.hid hin
  have b1 : decide (n ≤ i) = false := by simp; omega
  have b2 : decide ((n : Int) < 1) = false := by simp; omega
  have b3 : decide (4096 < (n : Int)) = false := by simp; omega
  have b4 : decide ((i : Int) < 0) = false := by simp
  clear hV hm hu hin
  go_enter Try.func74, Try.ntmps74
  go_wp2
  go_loopg [1, 2, 3, 4, 11] n (fun gk vn vi vl vp _ wx => ∃ (n i leaf m c : Nat) (b : Option Addr) (pr : List Int), 1 ≤ n ∧ n ≤ 4096 ∧ i < n ∧ gk = n ∧ vn = .int .i64 n ∧ vi = .int .i64 i ∧ vl = .int .u64 leaf ∧ leaf < 18446744073709551616 ∧ vp = .slice b m c ∧ m = pr.length ∧ m ≤ c ∧ c ≤ 17592186044416 ∧ U64s pr ∧ IntsAt .u64 w b pr ∧ V = ver tieI n i leaf pr ∧ w = wx)
  case atStart => exact ⟨n, i, leaf, m, cap, a, pr, hn1, hn, hi, rfl, rfl, rfl, rfl, hlf, rfl, HM.out, hpc, hc, HU.out, HI.out, HV.out, rfl⟩
  case round =>
    clear HV HM HU HI hn1 hn hi hlf hpc hc b1 b2 b3 b4
    obtain ⟨n, i, leaf, m, c, b, pr, hn1, hn, hi, hg, rfl, rfl, rfl, hlf, rfl, hm, hpc, hc, hu, hin, hV, rfl⟩ := hrel
    have HG := Lib.hid hg
    have HV := Lib.hid hV
    have HM := Lib.hid hm
    have HU := Lib.hid hu
    have HI := Lib.hid hin
    clear hg hm hu hin hV
    by_cases q : 1 < n
    · have hst := ver_pair tieI n i leaf pr (by omega) hi
      have hx := bits_sib i (by omega)
      obtain ⟨s, hs⟩ : ∃ s, s = sib i := ⟨_, rfl⟩
      have hsb : s ≤ i + 1 := by rw [hs]; unfold sib; split <;> omega
      rw [← hs] at hst hx
      obtain ⟨n2, hn2⟩ : ∃ n2, n2 = (n + 1) / 2 := ⟨_, rfl⟩
      obtain ⟨i2, hi2⟩ : ∃ i2, i2 = i / 2 := ⟨_, rfl⟩
      rw [← hn2, ← hi2] at hst
      have en : ((n : Int) + 1) / 2 = n2 := by omega
      have ei : (i : Int) / 2 = i2 := by omega
      have bn : 1 ≤ n2 ∧ n2 < n ∧ i2 < n2 := by omega
      obtain ⟨bn1, bn2, bn3⟩ := bn
      have HS := Lib.hid hs
      clear hn2 hi2 hs
      by_cases q2 : s < n
      · rw [if_pos q2] at hst
        by_cases q3 : m = 0
        · subst q3
          have hpn : pr = [] := List.eq_nil_of_length_eq_zero HM.out.symm
          subst hpn
          have hv : V = none := by rw [HV.out, hst]
          have HVN := Lib.hid hv
          clear hst hv
          go_wp2
          go_ret
          exact ⟨by rw [HVN.out]; rfl, rfl⟩
        · obtain ⟨x, rfl, hx1, hc1⟩ := HI.out (by rw [← HM.out]; omega)
          have c0 := hc1 0 (by rw [← HM.out]; omega)
          have e0 : x.add 0 = x := by simp [Addr.add]
          rw [e0] at c0
          have hcut := HI.out.cut 1 c (by rw [← HM.out]; exact hpc)
          obtain ⟨p, hp, lp⟩ := (HU.out.getD_in 0).nat
          have hpr : pr = (p : Int) :: pr.drop 1 := by
            match pr, HM.out, q3, hp with
            | y :: r, _, _, hp => rw [← hp]; rfl
            | [], h, q3, _ => exact absurd h q3
          have hvr : ver tieI n i leaf pr = ver tieI n2 i2 (up tieI i leaf p) (pr.drop 1) := by
            rw [hst]
            conv => lhs; rw [hpr]
          have hdl : m - 1 = (pr.drop 1).length := by rw [List.length_drop, ← HM.out]
          have HDL := Lib.hid hdl
          have HVR := Lib.hid (HV.out.trans hvr)
          have HUD := Lib.hid (HU.out.drop 1)
          rw [hp] at c0
          have hm0 : ((m : Int) == 0) = false := by simp; omega
          have hmc : 1 ≤ m := by omega
          clear hst hpr hvr hdl hp hc1 e0
          by_cases q4 : i % 2 = 0
          · have hev : ((i : Int) % 2 == 0) = true := by simp; omega
            have hup : up tieI i leaf p = tie leaf p := by unfold up; rw [if_pos q4, tieI_nat leaf p hlf lp]
            have cj := sum_Join leaf p hlf lp w
            have lD := tie_lt leaf p
            obtain ⟨D, hD⟩ : ∃ D, D = tie leaf p := ⟨_, rfl⟩
            rw [← hD] at cj lD hup
            have HUP := Lib.hid hup
            have CJ := Lib.hid cj
            clear hup cj hD q4
            by_cases q5 : c = 1
            · obtain rfl : m = 1 := by omega
              subst q5
              rw [if_pos rfl] at hcut
              have HC := Lib.hid hcut
              clear hcut
              go_wp2_with (go_at_call 21; refine (CJ.out).mono ?_; rintro e w1 ⟨rfl, rfl⟩)
              try simp only [en]
              go_roundg n2
              case measure => rw [HG.out]; exact bn2
              case rel => exact ⟨n2, i2, D, 0, 0, some x, pr.drop 1, bn1, by omega, bn3, rfl, rfl, rfl, rfl, lD, rfl, HDL.out, by omega, by omega, HUD.out, HC.out, by rw [HVR.out, HUP.out], rfl⟩
            · rw [if_neg q5] at hcut
              have HC := Lib.hid hcut
              clear hcut
              go_wp2_with (go_at_call 21; refine (CJ.out).mono ?_; rintro e w1 ⟨rfl, rfl⟩)
              try simp only [en]
              go_roundg n2
              case measure => rw [HG.out]; exact bn2
              case rel => exact ⟨n2, i2, D, m - 1, _, _, pr.drop 1, bn1, by omega, bn3, rfl, rfl, rfl, rfl, lD, (by first | rfl | (simp; done)), HDL.out, by omega, by omega, HUD.out, HC.out, by rw [HVR.out, HUP.out], rfl⟩
          · have hev : ((i : Int) % 2 == 0) = false := by simp; omega
            have hup : up tieI i leaf p = tie p leaf := by unfold up; rw [if_neg q4, tieI_nat p leaf lp hlf]
            have cj := sum_Join p leaf lp hlf w
            have lD := tie_lt p leaf
            obtain ⟨D, hD⟩ : ∃ D, D = tie p leaf := ⟨_, rfl⟩
            rw [← hD] at cj lD hup
            have HUP := Lib.hid hup
            have CJ := Lib.hid cj
            clear hup cj hD q4
            by_cases q5 : c = 1
            · obtain rfl : m = 1 := by omega
              subst q5
              rw [if_pos rfl] at hcut
              have HC := Lib.hid hcut
              clear hcut
              go_wp2_with (go_at_call 21; refine (CJ.out).mono ?_; rintro e w1 ⟨rfl, rfl⟩)
              try simp only [en]
              go_roundg n2
              case measure => rw [HG.out]; exact bn2
              case rel => exact ⟨n2, i2, D, 0, 0, some x, pr.drop 1, bn1, by omega, bn3, rfl, rfl, rfl, rfl, lD, rfl, HDL.out, by omega, by omega, HUD.out, HC.out, by rw [HVR.out, HUP.out], rfl⟩
            · rw [if_neg q5] at hcut
              have HC := Lib.hid hcut
              clear hcut
              go_wp2_with (go_at_call 21; refine (CJ.out).mono ?_; rintro e w1 ⟨rfl, rfl⟩)
              try simp only [en]
              go_roundg n2
              case measure => rw [HG.out]; exact bn2
              case rel => exact ⟨n2, i2, D, m - 1, _, _, pr.drop 1, bn1, by omega, bn3, rfl, rfl, rfl, rfl, lD, (by first | rfl | (simp; done)), HDL.out, by omega, by omega, HUD.out, HC.out, by rw [HVR.out, HUP.out], rfl⟩
      · rw [if_neg q2] at hst
        have HVR := Lib.hid (HV.out.trans hst)
        clear hst
        go_wp2
        try simp only [en]
        go_roundg n2
        case measure => rw [HG.out]; exact bn2
        case rel => exact ⟨n2, i2, leaf, m, _, _, pr, bn1, by omega, bn3, rfl, rfl, rfl, rfl, hlf, rfl, HM.out, by omega, by omega, HU.out, HI.out, HVR.out, rfl⟩
    · obtain rfl : n = 1 := by omega
      have hv : V = if pr.length = 0 then some (leaf : Int) else none := by rw [HV.out, ver_one]
      by_cases q3 : m = 0
      · have hd : decide (V = some (root : Int)) = ((leaf : Int) == (root : Int)) := by
          rw [hv, if_pos (by rw [← HM.out]; exact q3)]
          by_cases e : leaf = root
          · subst e; simp
          · have : ((leaf : Int) == (root : Int)) = false := by rw [beq_eq_false_iff_ne]; omega
            rw [this]; simp; omega
        have HD := Lib.hid hd
        subst q3
        clear hv hd
        go_wp2
        go_ret
        exact ⟨by rw [HD.out]; rfl, rfl⟩
      · have hd : decide (V = some (root : Int)) = false := by
          rw [hv, if_neg (by rw [← HM.out]; exact q3)]; simp
        have HD := Lib.hid hd
        have hm0 : ((m : Int) == 0) = false := by simp; omega
        clear hv hd
        go_wp2
        go_ret
        exact ⟨by rw [HD.out]; rfl, rfl⟩

/-- What the reference's Verified gives. -/
def VerPost (n i leaf : Nat) (pr : List Int) (w : World) (e : Ending) (w' : World) : Prop :=
  ∃ (d : Nat) (ok : Bool), e = .returned (.tuple #[.int .u64 d, .bool ok]) ∧ d < 18446744073709551616 ∧ ver tieI n i leaf pr = (if ok = true then some (d : Int) else none) ∧ Below w.heap.size w w'

set_option maxHeartbeats 4000000 in
theorem ref_Verified : ∀ (n i leaf : Nat) (pr : List Int) (a : Option Addr) (cap m : Nat) (w : World), m = pr.length → 1 ≤ n → n ≤ 4096 → i < n → leaf < 18446744073709551616 → m ≤ cap → cap ≤ 17592186044416 → U64s pr → IntsAt .u64 w a pr →
    Calls Try.prog 75 #[.int .i64 n, .int .i64 i, .int .u64 leaf, .slice a m cap] w (VerPost n i leaf pr w) := by
  intro n
  induction n using Nat.strongRecOn with
  | _ n ih =>
    intro i leaf pr a cap m w hm hn1 hn hi hlf hpc hc hu hin
    by_cases h1 : n = 1
    · subst h1
      have hv : ver tieI 1 i leaf pr = if pr.length = 0 then some (leaf : Int) else none := ver_one tieI i leaf pr
      rw [← hm] at hv
      have HV := Lib.hid hv
      clear ih hu hin hv hm
      by_cases q : m = 0
      · subst q
        go_enter Try.func75, Try.ntmps75
        go_wp2
        go_ret2
        exact ⟨leaf, true, rfl, hlf, HV.out, Below.refl _ _⟩
      · have hm0 : ((m : Int) == 0) = false := by simp; omega
        go_enter Try.func75, Try.ntmps75
        go_wp2
        go_ret2
        exact ⟨leaf, false, rfl, hlf, by rw [HV.out, if_neg q]; rfl, Below.refl _ _⟩
    · have hn1' : ((n : Int) == 1) = false := by simp; omega
      have hv := ver_two tieI n i leaf pr (by omega)
      rw [← hm] at hv
      by_cases q : m = 0
      · subst q
        have HV := Lib.hid hv
        clear ih hu hin hv hm
        go_enter Try.func75, Try.ntmps75
        go_wp2
        go_ret2
        exact ⟨0, false, rfl, by omega, HV.out, Below.refl _ _⟩
      · have hm0 : ((m : Int) == 0) = false := by simp; omega
        rw [if_neg q] at hv
        obtain ⟨x, rfl, hx, hcell⟩ := hin (by omega)
        have cl := hcell (m - 1) (by omega)
        obtain ⟨p, hp, lp⟩ := (hu.getD_in (m - 1)).nat
        rw [hp] at cl hv
        have hmi : (m : Int) - 1 = ((m - 1 : Nat) : Int) := by omega
        have hdr : pr.dropLast = pr.take (m - 1) := by rw [List.dropLast_eq_take, hm]
        rw [hdr] at hv
        obtain ⟨s1, s2⟩ := hf_spec n (by omega)
        have s3 := hf_pos n
        have hh := ref_half n (by omega) (by omega)
        obtain ⟨k, hk⟩ : ∃ k, k = hf n := ⟨_, rfl⟩
        rw [← hk] at s1 s2 s3 hh hv
        obtain ⟨m1, hm1⟩ : ∃ m1, m1 = m - 1 := ⟨_, rfl⟩
        rw [← hm1] at cl hv hmi
        have HH := Lib.hid hh
        have HV := Lib.hid hv
        have bm : m1 < m := by omega
        by_cases q2 : i < k
        · have c := ih k s1 i leaf (pr.take m1) (some x) cap m1
          have C := Lib.hid (fun w' h => c w' (by simp; omega) s3 (by omega) q2 hlf (by omega) hc (hu.take m1) (IntsAt.take h m1))
          have HI := Lib.hid hin
          clear ih hu hin hcell hv hp hk hh hdr c hm hm1
          go_enter Try.func75, Try.ntmps75
          go_wp2_with (go_at_call 97; refine (HH.out _).mono ?_; rintro e w1 ⟨rfl, rfl⟩)
          refine (C.out _ HI.out).mono ?_
          rintro e w2 ⟨d, ok, rfl, ld, hd, hb2⟩
          have ct := ref_Tied d p ld lp
          have et := tieI_nat d p ld lp
          have lt := tie_lt d p
          obtain ⟨D, hD⟩ : ∃ D, D = tie d p := ⟨_, rfl⟩
          rw [← hD] at ct et lt
          have CT := Lib.hid ct
          have HDD := Lib.hid hd
          have ET := Lib.hid et
          clear ct et hD hd
          go_wp2_with (go_at_call 22; refine (CT.out _).mono ?_; rintro e w3 ⟨rfl, hb3⟩)
          go_ret2
          refine ⟨D, ok, rfl, lt, ?_, bt hb2 hb3⟩
          rw [HV.out, if_pos q2, HDD.out]
          cases ok
          · rfl
          · show some (tieI d p) = some (D : Int)
            rw [ET.out]
        · have c := ih (n - k) (by omega) (i - k) leaf (pr.take m1) (some x) cap m1
          have C := Lib.hid (fun w' h => c w' (by simp; omega) (by omega) (by omega) (by omega) hlf (by omega) hc (hu.take m1) (IntsAt.take h m1))
          have HI := Lib.hid hin
          have en : (n : Int) - k = ((n - k : Nat) : Int) := by omega
          have ei : (i : Int) - k = ((i - k : Nat) : Int) := by omega
          clear ih hu hin hcell hv hp hk hh hdr c hm hm1
          go_enter Try.func75, Try.ntmps75
          go_wp2_with (go_at_call 97; refine (HH.out _).mono ?_; rintro e w1 ⟨rfl, rfl⟩)
          try simp only [en, ei]
          refine (C.out _ HI.out).mono ?_
          rintro e w2 ⟨d, ok, rfl, ld, hd, hb2⟩
          have ct := ref_Tied p d lp ld
          have et := tieI_nat p d lp ld
          have lt := tie_lt p d
          obtain ⟨D, hD⟩ : ∃ D, D = tie p d := ⟨_, rfl⟩
          rw [← hD] at ct et lt
          have CT := Lib.hid ct
          have HDD := Lib.hid hd
          have ET := Lib.hid et
          clear ct et hD hd
          go_wp2_with (go_at_call 22; refine (CT.out _).mono ?_; rintro e w3 ⟨rfl, hb3⟩)
          go_ret2
          refine ⟨D, ok, rfl, lt, ?_, bt hb2 hb3⟩
          rw [HV.out, if_neg q2, HDD.out]
          cases ok
          · rfl
          · show some (tieI p d) = some (D : Int)
            rw [ET.out]
end Go.Proofs.Ytdhaaeaacbnghaa
