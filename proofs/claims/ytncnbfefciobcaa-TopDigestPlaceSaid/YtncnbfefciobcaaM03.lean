/- Lemmas for the law TopDigestPlace: MerkleW, Verify, MerkleP3, Own, Levels, Filled. No conditions. -/
import Derived.Test.YtncnbfefciobcaaM01
import Derived.Test.YtncnbfefciobcaaM02
import Derived.Deep.RegionHeld3
import Derived.Maps.AppendAt
import Derived.Deep.AppendLies
import Derived.OwnWalk
import Derived.Deep.DeepMust
/- The reference's half, Top. -/
section
namespace Go.Proofs.Ytncnbfefciobcaa
open Go.ChangeShapes Go.WideShapes Go.ChangeAt Go.RowKit Go.Mem Go.Mk
set_option linter.unusedVariables false

def tieI (a b : Int) : Int := ((tied (W64.u a) (W64.u b) : Nat) : Int)
def In64 (z : Int) : Prop := 0 ≤ z ∧ z < 18446744073709551616
theorem tieI_in (a b : Int) : In64 (tieI a b) := by
  have := tie_lt (W64.u a) (W64.u b)
  unfold tieI In64; omega
theorem tieI_nat (a b : Nat) (ha : a < 18446744073709551616) (hb : b < 18446744073709551616) : tieI a b = tied a b := by
  unfold tieI; rw [W64.u_nat a ha, W64.u_nat b hb]
theorem In64.nat {z : Int} (h : In64 z) : ∃ k : Nat, z = k ∧ k < 18446744073709551616 := ⟨z.toNat, by unfold In64 at h; omega, by unfold In64 at h; omega⟩
theorem U64s.take {l : List Int} (h : U64s l) (k : Nat) : U64s (l.take k) := fun z hz => h z (List.mem_of_mem_take hz)
theorem U64s.drop {l : List Int} (h : U64s l) (k : Nat) : U64s (l.drop k) := fun z hz => h z (List.mem_of_mem_drop hz)
theorem U64s.getD_in {l : List Int} (h : U64s l) (k : Nat) : In64 (l.getD k 0) := by
  by_cases hk : k < l.length
  · exact h _ (by simp [hk])
  · rw [List.getD_eq_getElem?_getD, List.getElem?_eq_none (by omega)]; show In64 0; unfold In64; omega
theorem top_in (l : List Int) (h : U64s l) : In64 (top tieI l) := by
  by_cases h2 : 2 ≤ l.length
  · rw [top_two tieI l h2]; exact tieI_in _ _
  · by_cases h1 : l.length = 1
    · rw [top_len1 tieI l h1]; exact h.getD_in 0
    · have : l = [] := List.eq_nil_of_length_eq_zero (by omega)
      subst this; show In64 0; unfold In64; omega

theorem keepI {k : IntKind} {w w1 w2 : World} {a : Option Addr} {zs : List Int} {B : Nat} (h : IntsAt k w1 a zs ∧ Below B w w1) (hb : Below w1.heap.size w1 w2) (hB : B ≤ w.heap.size) : IntsAt k w2 a zs ∧ Below B w w2 := ⟨h.1.below hb, h.2.trans (hb.mono (Nat.le_trans hB h.2.size))⟩
theorem fstI {k : IntKind} {w w1 : World} {a : Option Addr} {zs : List Int} {B : Nat} (h : IntsAt k w1 a zs ∧ Below B w w1) : IntsAt k w1 a zs := h.1
theorem sndI {k : IntKind} {w w1 : World} {a : Option Addr} {zs : List Int} {B : Nat} (h : IntsAt k w1 a zs ∧ Below B w w1) : Below B w w1 := h.2
end Go.Proofs.Ytncnbfefciobcaa
end
/- merkle.Verify; the reference's Verified. -/
section
namespace Go.Proofs.Ytncnbfefciobcaa
open Go.ChangeShapes Go.WideShapes Go.ChangeAt Go.RowKit Go.Mem Go.Mk
set_option linter.unusedVariables false

theorem xor_one (i : Nat) : i ^^^ 1 = sib i := by
  have h2 : sib i / 2 = i / 2 := by unfold sib; split <;> omega
  have h3 : sib i % 2 = 1 - i % 2 := by unfold sib; split <;> omega
  apply Nat.eq_of_testBit_eq
  intro j
  rw [Nat.testBit_xor]
  cases j with
  | zero =>
    rw [Nat.testBit_zero, Nat.testBit_zero, Nat.testBit_zero, h3]
    rcases (show i % 2 = 0 ∨ i % 2 = 1 by omega) with h | h <;> simp [h]
  | succ j =>
    rw [Nat.testBit_succ (sib i), h2, Nat.testBit_succ i, Nat.testBit_succ 1]
    simp
theorem bits_sib (i : Nat) (h : i < 4611686018427387904) : bits .xor .i64 (i : Int) 1 = (sib i : Nat) := by
  have hs : sib i ≤ i + 1 := by unfold sib; split <;> omega
  have h1 : (BitVec.ofInt 64 (i : Int)).toNat = i := by
    rw [BitVec.ofInt_natCast, BitVec.toNat_ofNat]; exact Nat.mod_eq_of_lt (by omega)
  show IntKind.i64.wrap ((BitVec.ofInt 64 (i : Int) ^^^ BitVec.ofInt 64 1).toNat : Int) = _
  rw [BitVec.toNat_xor, h1, show (BitVec.ofInt 64 1).toNat = 1 from rfl, xor_one, IntKind.wrap_i64]
  omega

set_option maxHeartbeats 4000000 in
theorem merkle_Verify (root leaf : Nat) (n i : Nat) (pr : List Int) (a : Option Addr) (cap : Nat) (hn1 : 1 ≤ n) (hn : n ≤ 4096) (hi : i < n) (hr : root < 18446744073709551616) (hlf : leaf < 18446744073709551616) (hpc : pr.length ≤ cap) (hc : cap ≤ 9223372036854775807) (hu : U64s pr) (w : World) (hin : IntsAt .u64 w a pr) :
    Calls Try.prog 15 #[.int .u64 root, .int .i64 n, .int .i64 i, .int .u64 leaf, .slice a pr.length cap] w fun e w' => e = .returned (.bool (decide (ver tieI n i leaf pr = some (root : Int)))) ∧ w = w' := by
  obtain ⟨V, hV⟩ : ∃ V, V = ver tieI n i leaf pr := ⟨_, rfl⟩
  rw [← hV]
  obtain ⟨m, hm⟩ : ∃ m, m = pr.length := ⟨_, rfl⟩
  rw [← hm] at hpc ⊢
  have HV := Lib.hid hV
  have HM := Lib.hid hm
  have HU := Lib.hid hu
  have HI := Lib.hid hin
  have b1 : decide (n ≤ i) = false := by simp; omega
  have b2 : decide ((n : Int) < 1) = false := by simp; omega
  have b3 : decide (4096 < (n : Int)) = false := by simp; omega
  have b4 : decide ((i : Int) < 0) = false := by simp
  clear hV hm hu hin
  go_enter Try.func15, Try.ntmps15
  go_wp2
  go_loopg [1, 2, 3, 4, 11] n (fun gk vn vi vl vp _ wx => ∃ (n i leaf m c : Nat) (b : Option Addr) (pr : List Int), 1 ≤ n ∧ n ≤ 4096 ∧ i < n ∧ gk = n ∧ vn = .int .i64 n ∧ vi = .int .i64 i ∧ vl = .int .u64 leaf ∧ leaf < 18446744073709551616 ∧ vp = .slice b m c ∧ m = pr.length ∧ m ≤ c ∧ c ≤ 9223372036854775807 ∧ U64s pr ∧ IntsAt .u64 w b pr ∧ V = ver tieI n i leaf pr ∧ w = wx)
  case atStart => exact ⟨n, i, leaf, m, cap, a, pr, hn1, hn, hi, rfl, rfl, rfl, rfl, hlf, rfl, HM.out, hpc, hc, HU.out, HI.out, HV.out, rfl⟩
  case round =>
    clear HV HM HU HI hn1 hn hi hlf hpc hc b1 b2 b3 b4
    obtain ⟨n, i, leaf, m, c, b, pr, hn1, hn, hi, hg, rfl, rfl, rfl, hlf, rfl, hm, hpc, hc, hu, hin, hV, rfl⟩ := hrel
    have HG := Lib.hid hg
    have HV := Lib.hid hV
    have HM := Lib.hid hm
    have HU := Lib.hid hu
    have HI := Lib.hid hin
    clear hg hm hu hin hV
    by_cases q : 1 < n
    · have hst := ver_pair tieI n i leaf pr (by omega) hi
      have hx := bits_sib i (by omega)
      obtain ⟨s, hs⟩ : ∃ s, s = sib i := ⟨_, rfl⟩
      have hsb : s ≤ i + 1 := by rw [hs]; unfold sib; split <;> omega
      rw [← hs] at hst hx
      obtain ⟨n2, hn2⟩ : ∃ n2, n2 = (n + 1) / 2 := ⟨_, rfl⟩
      obtain ⟨i2, hi2⟩ : ∃ i2, i2 = i / 2 := ⟨_, rfl⟩
      rw [← hn2, ← hi2] at hst
      have en : ((n : Int) + 1) / 2 = n2 := by omega
      have ei : (i : Int) / 2 = i2 := by omega
      have bn : 1 ≤ n2 ∧ n2 < n ∧ i2 < n2 := by omega
      obtain ⟨bn1, bn2, bn3⟩ := bn
      have HS := Lib.hid hs
      clear hn2 hi2 hs
      by_cases q2 : s < n
      · rw [if_pos q2] at hst
        by_cases q3 : m = 0
        · subst q3
          have hpn : pr = [] := List.eq_nil_of_length_eq_zero HM.out.symm
          subst hpn
          have hv : V = none := by rw [HV.out, hst]
          have HVN := Lib.hid hv
          clear hst hv
          go_wp2
          go_ret
          exact ⟨by rw [HVN.out]; rfl, rfl⟩
        · obtain ⟨x, rfl, hx1, hc1⟩ := HI.out (by rw [← HM.out]; omega)
          have c0 := hc1 0 (by rw [← HM.out]; omega)
          have e0 : x.add 0 = x := by simp [Addr.add]
          rw [e0] at c0
          have hcut := HI.out.cut 1 c (by rw [← HM.out]; exact hpc)
          obtain ⟨p, hp, lp⟩ := (HU.out.getD_in 0).nat
          have hpr : pr = (p : Int) :: pr.drop 1 := by
            match pr, HM.out, q3, hp with
            | y :: r, _, _, hp => rw [← hp]; rfl
            | [], h, q3, _ => exact absurd h q3
          have hvr : ver tieI n i leaf pr = ver tieI n2 i2 (up tieI i leaf p) (pr.drop 1) := by
            rw [hst]
            conv => lhs; rw [hpr]
          have hdl : m - 1 = (pr.drop 1).length := by rw [List.length_drop, ← HM.out]
          have HDL := Lib.hid hdl
          have HVR := Lib.hid (HV.out.trans hvr)
          have HUD := Lib.hid (HU.out.drop 1)
          rw [hp] at c0
          have hm0 : ((m : Int) == 0) = false := by simp; omega
          have hmc : 1 ≤ m := by omega
          clear hst hpr hvr hdl hp hc1 e0
          by_cases q4 : i % 2 = 0
          · have hev : ((i : Int) % 2 == 0) = true := by simp; omega
            have hup : up tieI i leaf p = tied leaf p := by unfold up; rw [if_pos q4, tieI_nat leaf p hlf lp]
            have cj := sum_Join leaf p hlf lp w
            have lD := tie_lt leaf p
            obtain ⟨D, hD⟩ : ∃ D, D = tied leaf p := ⟨_, rfl⟩
            rw [← hD] at cj lD hup
            have HUP := Lib.hid hup
            have CJ := Lib.hid cj
            clear hup cj hD q4
            by_cases q5 : c = 1
            · obtain rfl : m = 1 := by omega
              subst q5
              rw [if_pos rfl] at hcut
              have HC := Lib.hid hcut
              clear hcut
              go_wp2_with (go_at_call 38; refine (CJ.out).mono ?_; rintro e w1 ⟨rfl, rfl⟩)
              try simp only [en]
              go_roundg n2
              case measure => rw [HG.out]; exact bn2
              case rel => exact ⟨n2, i2, D, 0, 0, some x, pr.drop 1, bn1, by omega, bn3, rfl, rfl, rfl, rfl, lD, rfl, HDL.out, by omega, by omega, HUD.out, HC.out, by rw [HVR.out, HUP.out], rfl⟩
            · rw [if_neg q5] at hcut
              have HC := Lib.hid hcut
              clear hcut
              go_wp2_with (go_at_call 38; refine (CJ.out).mono ?_; rintro e w1 ⟨rfl, rfl⟩)
              try simp only [en]
              go_roundg n2
              case measure => rw [HG.out]; exact bn2
              case rel => exact ⟨n2, i2, D, m - 1, _, _, pr.drop 1, bn1, by omega, bn3, rfl, rfl, rfl, rfl, lD, (by first | rfl | (simp; done)), HDL.out, by omega, by omega, HUD.out, HC.out, by rw [HVR.out, HUP.out], rfl⟩
          · have hev : ((i : Int) % 2 == 0) = false := by simp; omega
            have hup : up tieI i leaf p = tied p leaf := by unfold up; rw [if_neg q4, tieI_nat p leaf lp hlf]
            have cj := sum_Join p leaf lp hlf w
            have lD := tie_lt p leaf
            obtain ⟨D, hD⟩ : ∃ D, D = tied p leaf := ⟨_, rfl⟩
            rw [← hD] at cj lD hup
            have HUP := Lib.hid hup
            have CJ := Lib.hid cj
            clear hup cj hD q4
            by_cases q5 : c = 1
            · obtain rfl : m = 1 := by omega
              subst q5
              rw [if_pos rfl] at hcut
              have HC := Lib.hid hcut
              clear hcut
              go_wp2_with (go_at_call 38; refine (CJ.out).mono ?_; rintro e w1 ⟨rfl, rfl⟩)
              try simp only [en]
              go_roundg n2
              case measure => rw [HG.out]; exact bn2
              case rel => exact ⟨n2, i2, D, 0, 0, some x, pr.drop 1, bn1, by omega, bn3, rfl, rfl, rfl, rfl, lD, rfl, HDL.out, by omega, by omega, HUD.out, HC.out, by rw [HVR.out, HUP.out], rfl⟩
            · rw [if_neg q5] at hcut
              have HC := Lib.hid hcut
              clear hcut
              go_wp2_with (go_at_call 38; refine (CJ.out).mono ?_; rintro e w1 ⟨rfl, rfl⟩)
              try simp only [en]
              go_roundg n2
              case measure => rw [HG.out]; exact bn2
              case rel => exact ⟨n2, i2, D, m - 1, _, _, pr.drop 1, bn1, by omega, bn3, rfl, rfl, rfl, rfl, lD, (by first | rfl | (simp; done)), HDL.out, by omega, by omega, HUD.out, HC.out, by rw [HVR.out, HUP.out], rfl⟩
      · rw [if_neg q2] at hst
        have HVR := Lib.hid (HV.out.trans hst)
        clear hst
        go_wp2
        try simp only [en]
        go_roundg n2
        case measure => rw [HG.out]; exact bn2
        case rel => exact ⟨n2, i2, leaf, m, _, _, pr, bn1, by omega, bn3, rfl, rfl, rfl, rfl, hlf, rfl, HM.out, by omega, by omega, HU.out, HI.out, HVR.out, rfl⟩
    · obtain rfl : n = 1 := by omega
      have hv : V = if pr.length = 0 then some (leaf : Int) else none := by rw [HV.out, ver_one]
      by_cases q3 : m = 0
      · have hd : decide (V = some (root : Int)) = ((leaf : Int) == (root : Int)) := by
          rw [hv, if_pos (by rw [← HM.out]; exact q3)]
          by_cases e : leaf = root
          · subst e; simp
          · have : ((leaf : Int) == (root : Int)) = false := by rw [beq_eq_false_iff_ne]; omega
            rw [this]; simp; omega
        have HD := Lib.hid hd
        subst q3
        clear hv hd
        go_wp2
        go_ret
        exact ⟨by rw [HD.out]; rfl, rfl⟩
      · have hd : decide (V = some (root : Int)) = false := by
          rw [hv, if_neg (by rw [← HM.out]; exact q3)]; simp
        have HD := Lib.hid hd
        have hm0 : ((m : Int) == 0) = false := by simp; omega
        clear hv hd
        go_wp2
        go_ret
        exact ⟨by rw [HD.out]; rfl, rfl⟩

/-- What the reference's Verified gives. -/
def VerPost (n i leaf : Nat) (pr : List Int) (w : World) (e : Ending) (w' : World) : Prop :=
  ∃ (d : Nat) (ok : Bool), e = .returned (.tuple #[.int .u64 d, .bool ok]) ∧ d < 18446744073709551616 ∧ ver tieI n i leaf pr = (if ok = true then some (d : Int) else none) ∧ Below w.heap.size w w'

end Go.Proofs.Ytncnbfefciobcaa
end
/- Trees of digests: the levels (plain). -/
section
namespace Go.Mk
section
variable (T : Int → Int → Int)
def levsF : Nat → List Int → List (List Int)
  | 0, l => [l]
  | f + 1, l => if l.length ≤ 1 then [l] else l :: levsF f (pair T l)
theorem levsF_fuel : ∀ (f g : Nat) (l : List Int), l.length ≤ f → l.length ≤ g → levsF T f l = levsF T g l
  | 0, 0, l, _, _ => rfl
  | 0, g + 1, l, h, _ => by
    have : l.length ≤ 1 := by omega
    simp [levsF, this]
  | f + 1, 0, l, _, h => by
    have : l.length ≤ 1 := by omega
    simp [levsF, this]
  | f + 1, g + 1, l, h1, h2 => by
    unfold levsF
    by_cases h0 : l.length ≤ 1
    · rw [if_pos h0, if_pos h0]
    · rw [if_neg h0, if_neg h0, levsF_fuel f g (pair T l) (by rw [pair_length]; omega) (by rw [pair_length]; omega)]
def levs (l : List Int) : List (List Int) := levsF T l.length l
theorem levs_short (l : List Int) (h : l.length ≤ 1) : levs T l = [l] := by
  unfold levs
  rcases (show l.length = 0 ∨ l.length = 1 by omega) with e | e <;> rw [e]
  · rfl
  · simp [levsF, e]
theorem levs_long (l : List Int) (h : 2 ≤ l.length) : levs T l = l :: levs T (pair T l) := by
  obtain ⟨f, hf'⟩ : ∃ f, l.length = f + 1 := ⟨l.length - 1, by omega⟩
  have e : levs T l = levsF T (f + 1) l := by unfold levs; rw [hf']
  rw [e]
  unfold levsF
  rw [if_neg (by omega)]
  unfold levs
  rw [levsF_fuel T f _ (pair T l) (by rw [pair_length]; omega) (Nat.le_refl _)]
theorem pair_getD : ∀ (t : Nat) (l : List Int), 2 * t < l.length → (pair T l).getD t 0 = if 2 * t + 1 < l.length then T (l.getD (2 * t) 0) (l.getD (2 * t + 1) 0) else l.getD (2 * t) 0
  | 0, [], h => by simp at h
  | 0, [a], _ => by simp [pair]
  | 0, a :: b :: r, _ => by simp [pair]
  | t + 1, [], h => by simp at h
  | t + 1, [a], h => by simp at h
  | t + 1, a :: b :: r, h => by
    have ih := pair_getD t r (by simp at h; omega)
    show (pair T r).getD t 0 = _
    rw [ih]
    have e1 : (a :: b :: r).getD (2 * (t + 1)) 0 = r.getD (2 * t) 0 := by rw [Nat.mul_add]; rfl
    have e2 : (a :: b :: r).getD (2 * (t + 1) + 1) 0 = r.getD (2 * t + 1) 0 := by rw [Nat.mul_add]; rfl
    rw [e1, e2]
    by_cases q : 2 * t + 1 < r.length
    · rw [if_pos q, if_pos (by simp; omega)]
    · rw [if_neg q, if_neg (by simp; omega)]
theorem levs_ne (l : List Int) : levs T l ≠ [] := by
  by_cases h : l.length ≤ 1
  · rw [levs_short T l h]; simp
  · rw [levs_long T l (by omega)]; simp
theorem levs_pos (l : List Int) : 1 ≤ (levs T l).length := by
  have := List.length_pos_iff.2 (levs_ne T l)
  exact this
theorem levs_length : ∀ (n : Nat) (l : List Int), l.length = n → (levs T l).length ≤ n + 1 := by
  intro n
  induction n using Nat.strongRecOn with
  | _ n ih =>
    intro l hl
    by_cases h : l.length ≤ 1
    · rw [levs_short T l h]; simp
    · rw [levs_long T l (by omega)]
      have := ih ((n + 1) / 2) (by omega) (pair T l) (by rw [pair_length, hl])
      simp; omega
/-- The last level is the root alone. -/
theorem levs_last : ∀ (n : Nat) (l : List Int), l.length = n → 1 ≤ n → (levs T l).getD ((levs T l).length - 1) [] = [top T l] := by
  intro n
  induction n using Nat.strongRecOn with
  | _ n ih =>
    intro l hl h1
    by_cases h : n = 1
    · rw [levs_short T l (by omega)]
      match l, hl.trans h with
      | [a], _ => rfl
    · have hp := ih ((n + 1) / 2) (by omega) (pair T l) (by rw [pair_length, hl]) (by omega)
      rw [top_pair T n l hl (by omega)] at hp
      rw [levs_long T l (by omega)]
      have h2 := levs_pos T (pair T l)
      obtain ⟨m, hm⟩ : ∃ m, (levs T (pair T l)).length = m + 1 := ⟨(levs T (pair T l)).length - 1, by omega⟩
      rw [hm] at hp
      rw [List.length_cons, hm]
      exact hp
end
end Go.Mk
end
/- Rows of the call's own: kept, apart from each other; an append of a slice of integers. No program is named here. -/
section
namespace Go
open Go.RowKit
namespace Mem

/-! More on rows of the call's own. -/
theorem own_keep {w w2 : World} {base e size n : Nat} {v : Value} {xs : List Value} (h : w.ownsRow base e size v n xs) (hk : ∀ g, v.ownBlock = some g → w2.heap[g]? = w.heap[g]?) : w2.ownsRow base e size v n xs := by
  refine ⟨h.1, ?_⟩
  rcases h.2 with h2 | ⟨g, cap, cur, h1, h2, h3, h4⟩
  · exact .inl h2
  · exact .inr ⟨g, cap, cur, h1, h2, (hk g (by rw [h1]; rfl)).trans h3, h4⟩
theorem own_lt {w : World} {base e size n : Nat} {v : Value} {xs : List Value} (h : w.ownsRow base e size v n xs) (g : Nat) (hg : v.ownBlock = some g) : base ≤ g ∧ g < w.heap.size := by
  rcases h.2 with ⟨h2, _⟩ | ⟨g', cap, cur, h1, h2, h3, h4⟩
  · rw [h2] at hg; cases hg
  · rw [h1] at hg
    obtain rfl : g' = g := by simpa [Value.ownBlock] using hg
    exact ⟨h2, lt_of_heap h3⟩
theorem own_below {w w2 : World} {base e size n : Nat} {v : Value} {xs : List Value} (h : w.ownsRow base e size v n xs) (hb : Below w.heap.size w w2) : w2.ownsRow base e size v n xs :=
  own_keep h fun g hg => hb.block g (own_lt h g hg).2
theorem own_grown {w w2 : World} {base e size n : Nat} {v : Value} {xs : List Value} {row : Option Nat} (h : w.ownsRow base e size v n xs) (hg : w.grownBy w2 row) (hne : ∀ g, v.ownBlock = some g → some g ≠ row) : w2.ownsRow base e size v n xs :=
  own_keep h fun g hv => hg.block g (own_lt h g hv).2 (hne g hv)
/-- Rows of different element types lie in different blocks. -/
theorem own_other {w : World} {base base2 e e2 size size2 n n2 : Nat} {v v2 : Value} {xs ys : List Value} (h : w.ownsRow base e size v n xs) (h2 : w.ownsRow base2 e2 size2 v2 n2 ys) (hne : e ≠ e2) (g : Nat) (hg : v.ownBlock = some g) : some g ≠ v2.ownBlock := by
  intro he
  rcases h.2 with ⟨h3, _⟩ | ⟨g', cap, cur, h3, _, h4, _⟩
  · rw [h3] at hg; cases hg
  · rw [h3] at hg
    obtain rfl : g' = g := by simpa [Value.ownBlock] using hg
    rcases h2.2 with ⟨h5, _⟩ | ⟨g'', cap2, cur2, h5, _, h6, _⟩
    · rw [h5] at he; cases he
    · rw [h5] at he
      obtain rfl : g' = g'' := by simpa [Value.ownBlock] using he
      rw [h4] at h6
      injection h6 with h6
      injection h6 with _ ht
      exact hne ht
theorem own_base {w : World} {base base2 e size n : Nat} {v : Value} {xs : List Value} (h : w.ownsRow base e size v n xs) (hb : ∀ g, v.ownBlock = some g → base2 ≤ g) : w.ownsRow base2 e size v n xs := by
  refine ⟨h.1, ?_⟩
  rcases h.2 with h2 | ⟨g, cap, cur, h1, h2, h3⟩
  · exact .inl h2
  · exact .inr ⟨g, cap, cur, h1, hb g (by rw [h1]; rfl), h3⟩
theorem own_lower {w : World} {base base2 e size n : Nat} {v : Value} {xs : List Value} (h : w.ownsRow base e size v n xs) (hb : base2 ≤ base) : w.ownsRow base2 e size v n xs := own_base h fun g hg => Nat.le_trans hb (own_lt h g hg).1
/-- 'append(v, s...)' of a slice of integers, whatever it is, v nil or the call's own. -/
theorem wpList_append_ints {P : Program} {w : World} {ops : Array Oper} {rest : List Oper} {o : Oper} {a : Act} {Q : Exit → Act → World → Prop} (hgd : o.guard = none) (s x : Operand) (t : TypeId)
    (ho : o.op = .call { callee := .builtin .append, args := #[s, x], argTypes := #[t, t] })
    (base : Nat) (e : TypeId) (k : IntKind) (bytes : Nat) (ht : P.underlying t = some (.slice e)) (hi : (P.info? e).map (fun i => (i.zero, i.size, i.bytes)) = some (some (.int k 0), 1, bytes))
    (v : Value) (n : Nat) (xs : List Int) (hs : a.eval s = v) (hown : w.ownsRow base e 1 v n (vints k xs))
    (A : Option Addr) (m c : Nat) (zs : List Int) (hx : a.eval x = .slice A m c) (hm : zs.length = m) (hr : IntsAt k w A zs)
    (hn : n + m ≤ maxLen) (hbytes : (n + m) * bytes ≤ 140737488355328) (hbase : base ≤ w.heap.size)
    (h : ∀ v' w', w'.ownsRow base e 1 v' (n + m) (vints k (xs ++ zs)) → w.grownBy w' v.ownBlock → (v'.ownBlock = v.ownBlock ∨ v'.ownBlock = some w.heap.size) → wpList P ops Q rest (a.put o.dst v') w') :
    wpList P ops Q (o :: rest) a w := by
  obtain ⟨i, hi1, hi2, hi3, hi4⟩ := info_parts hi
  have key : ∃ v' w', (Builtin.append_ #[t, t] o.type #[v, .slice A m c]).run P w = .ok v' w' ∧ w'.ownsRow base e 1 v' (n + m) (vints k (xs ++ zs)) ∧ w.grownBy w' v.ownBlock ∧ (v'.ownBlock = v.ownBlock ∨ v'.ownBlock = some w.heap.size) := by
    by_cases h0 : m = 0
    · subst h0
      have hz : zs = [] := List.eq_nil_of_length_eq_zero hm
      subst hz
      rcases A with _ | ad
      · refine ⟨v, w, ?_, by simpa using hown, World.grownBy.refl w _, .inl rfl⟩
        rcases hown.2 with ⟨rfl, rfl⟩ | ⟨g, cap, cur, rfl, _, _, hnc, _⟩
        · simp [Builtin.append_, run_underlying ht, sizeOf, typeInfo, hi1, Builtin.lenOf, Builtin.firstCells]
        · simp [Builtin.append_, run_underlying ht, sizeOf, typeInfo, hi1, Builtin.lenOf, Builtin.firstCells, hnc, storeCells]
      · obtain ⟨v', w', hrun, h2, h3, _, h5⟩ := run_append_own_at (P := P) w base t o.type e i (.int k 0) 1 bytes ht hi1 hi2 hi3 hi4 rfl (by omega) v n _ hown ad 0 c [] rfl (by simp) (by simp) hn hbytes hbase
        exact ⟨v', w', hrun, by simpa using h2, h3, h5⟩
    · obtain ⟨ad, rfl, _, hc⟩ := hr (by omega)
      have hnews : ∀ j u, (vints k zs)[j]? = some u → w.cell? (ad.add j) = some u := by
        intro j u hu
        have hj : j < zs.length := by
          have := (List.getElem?_eq_some_iff.1 hu).1
          rwa [vints_length] at this
        rw [hc j hj]
        rw [vints_get k zs j hj] at hu
        exact hu
      obtain ⟨v', w', hrun, h2, h3, _, h5⟩ := run_append_own_at (P := P) w base t o.type e i (.int k 0) 1 bytes ht hi1 hi2 hi3 hi4 rfl (by omega) v n _ hown ad m c (vints k zs) (by rw [vints_length, hm, Nat.mul_one]) hnews (vints_one k zs) hn hbytes hbase
      rw [vints_append] at h2
      exact ⟨v', w', hrun, h2, h3, h5⟩
  obtain ⟨v', w', hrun, h2, h3, h4⟩ := key
  refine wpList_plain hgd fun K hK => ?_
  unfold Oper.wp execOp
  simp only [ho, resolve, invoke, builtin, Sem.run_bind, Sem.run_pure, Result.andThen_ok, List.map_toArray, List.map_cons, List.map_nil, hs, hx, hrun]
  exact hK _ _ (h v' w' h2 h3 h4)
end Mem
end Go
end
/- merkle.levels. -/
section
namespace Go.Proofs.Ytncnbfefciobcaa
open Go.ChangeShapes Go.WideShapes Go.ChangeAt Go.RowKit Go.Mem Go.Mk
set_option linter.unusedVariables false

/-- The levels of a tree, in memory. -/
def LevAt (w : World) (v : Value) (ls : List (List Int)) : Prop :=
  ∃ g cap, v = .slice (some ⟨g, 0, none⟩) ls.length cap ∧ ls.length ≤ cap ∧ g < w.heap.size ∧
    ∀ j, j < ls.length → ∃ a c, w.cell? ⟨g, j, none⟩ = some (.slice a (ls.getD j []).length c) ∧ (ls.getD j []).length ≤ c ∧ IntsAt .u64 w a (ls.getD j [])
theorem LevAt.below {w w2 : World} {v : Value} {ls : List (List Int)} (h : LevAt w v ls) (hb : Below w.heap.size w w2) : LevAt w2 v ls := by
  obtain ⟨g, cap, h1, h2, h3, h4⟩ := h
  refine ⟨g, cap, h1, h2, Nat.lt_of_lt_of_le h3 hb.size, fun j hj => ?_⟩
  obtain ⟨a, c, k1, k2, k4⟩ := h4 j hj
  exact ⟨a, c, (hb.cell h3).trans k1, k2, k4.below hb⟩
/-- The rows that the call has made so far. -/
def RowsOwn (w : World) (D : Nat) (vs : List Value) (rows : List (List Int)) : Prop :=
  vs.length = rows.length ∧ ∀ j, j < rows.length → w.ownsRow D 31 1 (vs.getD j undef) (rows.getD j []).length (vints .u64 (rows.getD j []))
theorem RowsOwn.keep {w w2 : World} {D : Nat} {vs : List Value} {rows : List (List Int)} (h : RowsOwn w D vs rows) (hk : ∀ base n v xs, w.ownsRow base 31 1 v n xs → w2.ownsRow base 31 1 v n xs) : RowsOwn w2 D vs rows :=
  ⟨h.1, fun j hj => hk _ _ _ _ (h.2 j hj)⟩
theorem RowsOwn.snoc {w : World} {D : Nat} {vs : List Value} {rows : List (List Int)} {v : Value} {r : List Int} {n : Nat} (h : RowsOwn w D vs rows) (hn : n = r.length) (hv : w.ownsRow D 31 1 v n (vints .u64 r)) : RowsOwn w D (vs ++ [v]) (rows ++ [r]) := by
  subst hn
  refine ⟨by simp [h.1], fun j hj => ?_⟩
  by_cases q : j < rows.length
  · have e1 : (vs ++ [v]).getD j undef = vs.getD j undef := by
      rw [List.getD_eq_getElem?_getD, List.getElem?_append_left (by rw [h.1]; exact q), ← List.getD_eq_getElem?_getD]
    have e2 : (rows ++ [r]).getD j [] = rows.getD j [] := by
      rw [List.getD_eq_getElem?_getD, List.getElem?_append_left q, ← List.getD_eq_getElem?_getD]
    rw [e1, e2]; exact h.2 j q
  · have ej : j = rows.length := by simp at hj; omega
    subst ej
    have e1 : (vs ++ [v]).getD rows.length undef = v := by rw [← h.1]; simp
    have e2 : (rows ++ [r]).getD rows.length [] = r := by simp
    rw [e1, e2]; exact hv
theorem pair_u64 : ∀ l : List Int, U64s l → U64s (pair tieI l)
  | [], h => h
  | [a], h => by
    have : pair tieI [a] = [a] := by simp [pair]
    rw [this]; exact h
  | a :: b :: r, h => by
    have ih := pair_u64 r (fun z hz => h z (List.mem_cons_of_mem _ (List.mem_cons_of_mem _ hz)))
    intro z hz
    have hz' : z = tieI a b ∨ z ∈ pair tieI r := by simpa [pair] using hz
    rcases hz' with rfl | hz'
    · exact tieI_in a b
    · exact ih z hz'
theorem lev_of_rows {w : World} {D : Nat} {vs : List Value} {rows : List (List Int)} {v : Value} (h : RowsOwn w D vs rows) (hv : w.ownsRow D 34 1 v rows.length vs) (h1 : 1 ≤ rows.length) : LevAt w v rows := by
  obtain ⟨g, cap, rfl, _, hlt⟩ := hv.form (by omega)
  obtain ⟨cap', hc, hcc⟩ : ∃ cap', Value.slice (some ⟨g, 0, none⟩) rows.length cap = .slice (some ⟨g, 0, none⟩) rows.length cap' ∧ rows.length ≤ cap' := by
    rcases hv.2 with ⟨h2, _⟩ | ⟨g', cap', cur, h2, _, _, h3, _⟩
    · cases h2
    · injection h2 with e1 e2 e3
      exact ⟨cap', by rw [e3], h3⟩
  refine ⟨g, cap', hc, hcc, hlt, fun j hj => ?_⟩
  have hcell := hv.cellAt j (by omega)
  have hj' : j < vs.length := by rw [h.1]; exact hj
  have hg : vs[j]? = some (vs.getD j undef) := by simp [hj']
  rw [hg] at hcell
  obtain ⟨a, c, e1, e2, e3⟩ : ∃ a c, vs.getD j undef = .slice a (rows.getD j []).length c ∧ (rows.getD j []).length ≤ c ∧ IntsAt .u64 w a (rows.getD j []) := by
    have ho := h.2 j hj
    rcases ho.2 with ⟨k1, k2⟩ | ⟨g2, c2, cur2, k1, k2, k3, k4, k5⟩
    · rw [k1, k2]; exact ⟨none, 0, rfl, Nat.le_refl _, fun hh => by omega⟩
    · rw [k1] at ho ⊢
      exact ⟨_, c2, rfl, k4, IntsAt.of_own ho rfl⟩
  exact ⟨a, c, by rw [hcell, e1], e2, e3⟩

theorem len_own {w : World} {base e n : Nat} {k : IntKind} {v : Value} {zs : List Int} (h : w.ownsRow base e 1 v n (vints k zs)) : zs.length = n := by
  have := h.1; rw [vints_length] at this; omega

/-- What levels gives. -/
def LevPost (ls : List (List Int)) (w : World) (e : Ending) (w' : World) : Prop := ∃ v, e = .returned v ∧ LevAt w' v ls ∧ Below w.heap.size w w'

set_option maxHeartbeats 8000000 in
set_option maxRecDepth 100000 in
theorem merkle_levels (l : List Int) (a : Option Addr) (n cap : Nat) (hn : l.length = n) (h1 : 1 ≤ n) (h2 : n ≤ 8192) (hu : U64s l) (w : World) (hin : IntsAt .u64 w a l) :
    Calls Try.prog 29 #[.slice a n cap] w (LevPost (levs tieI l) w) := by
  have HU := Lib.hid hu
  have HN := Lib.hid hn
  have hnil : w.ownsRow w.heap.size 31 1 (.slice none 0 0) 0 (vints .u64 []) := ⟨rfl, .inl ⟨rfl, rfl⟩⟩
  have HNIL := Lib.hid hnil
  have HIN := Lib.hid hin
  clear hu hn hnil hin
  go_enter Try.func29, Try.ntmps29
  go_wp2_with (at_builtin; go_must (refine wpList_append_ints rfl _ _ 34 rfl w.heap.size 31 .u64 8 Try.underlying34 (by kernel_rfl) (.slice none 0 0) 0 [] rfl HNIL.out a n cap l rfl HN.out HIN.out (by unfold maxLen; omega) (by omega) (Nat.le_refl _) ?_))
  intro v0 w1 hown hgr hat
  have hb1 : Below w.heap.size w w1 := (Below.refl _ _).grown hgr (Nat.le_refl _) (fun k hk => by cases hk)
  obtain ⟨g0, c0, rfl, hg0, lg0⟩ := hown.form (by omega)
  have HO := Lib.hid hown
  clear hgr hat hown
  have hlit := World.ownsRow_lit (e := 34) (size := 1) (base := w.heap.size) w1 #[Value.slice (some ⟨g0, 0, none⟩) n c0] 1 hb1.size (by unfold maxLen; omega) rfl
  have c00 : (w1.alloc (.cells #[Value.slice (some ⟨g0, 0, none⟩) n c0] 34)).cell? ⟨w1.heap.size, 0, none⟩ = some (.slice (some ⟨g0, 0, none⟩) n c0) := by rw [World.cell?_alloc_at] <;> rfl
  have HLIT := Lib.hid hlit
  have hbw := hb1.alloc hb1.size (.cells #[Value.slice (some ⟨g0, 0, none⟩) n c0] 34)
  have HO1 := Lib.hid (own_below HO.out ((Below.refl w1.heap.size w1).alloc (Nat.le_refl _) (.cells #[Value.slice (some ⟨g0, 0, none⟩) n c0] 34)))
  have hX := hb1.size
  clear hlit HO hb1
  go_wp2
  generalize w1.alloc (.cells #[Value.slice (some ⟨g0, 0, none⟩) n c0] 34) = W1 at *
  generalize w1.heap.size = X1 at *
  go_loopg [3, 4, 5, 6] n (fun gk vout vl _ _ wx => ∃ (pre : List (List Int)) (cur : List Int) (vs : List Value) (m gc cc go_ co : Nat),
      gk = m ∧ m = cur.length ∧ 1 ≤ m ∧ pre.length + m ≤ n + 1 ∧ vl = .slice (some ⟨gc, 0, none⟩) m cc ∧ vout = .slice (some ⟨go_, 0, none⟩) (pre.length + 1) co ∧
      wx.ownsRow w.heap.size 34 1 (.slice (some ⟨go_, 0, none⟩) (pre.length + 1) co) (pre.length + 1) (vs ++ [.slice (some ⟨gc, 0, none⟩) m cc]) ∧ RowsOwn wx w.heap.size vs pre ∧
      wx.ownsRow w.heap.size 31 1 (.slice (some ⟨gc, 0, none⟩) m cc) m (vints .u64 cur) ∧ pre ++ levs tieI cur = levs tieI l ∧ U64s cur ∧ Below w.heap.size w wx)
  case atStart => exact ⟨[], l, [], n, g0, c0, X1, 1, rfl, HN.out.symm, h1, by simp, rfl, rfl, HLIT.out, ⟨rfl, fun j hj => by simp at hj⟩, HO1.out, rfl, HU.out, hbw⟩
  case round =>
    clear HLIT HO1 HU hbw c00 hX HNIL
    obtain ⟨pre, cur, vs, m, gc, cc, go_, co, hg, hm, m1, hpm, rfl, rfl, hout, hrows, hcur, hlev, huc, hbw⟩ := hrel
    have HG := Lib.hid hg
    have HM := Lib.hid hm
    have HOUT := Lib.hid hout
    have HROWS := Lib.hid hrows
    have HCUR := Lib.hid hcur
    have HLEV := Lib.hid hlev
    have HUC := Lib.hid huc
    obtain ⟨pl, hpl⟩ : ∃ pl, pl = pre.length := ⟨_, rfl⟩
    rw [← hpl] at hpm ⊢
    have HPL := Lib.hid hpl
    clear hg hm hout hrows hcur hlev huc hpl
    by_cases q : 1 < m
    · obtain ⟨P, hP⟩ : ∃ P, P = pair tieI cur := ⟨_, rfl⟩
      obtain ⟨m2, hm2⟩ : ∃ m2, m2 = (m + 1) / 2 := ⟨_, rfl⟩
      have hPl : P.length = m2 := by rw [hP, pair_length, ← HM.out, hm2]
      have hPu : U64s P := by rw [hP]; exact pair_u64 cur HUC.out
      have hPg : ∀ t, 2 * t < m → P.getD t 0 = if 2 * t + 1 < m then tieI (cur.getD (2 * t) 0) (cur.getD (2 * t + 1) 0) else cur.getD (2 * t) 0 := fun t ht => by
        rw [hP, HM.out]; exact pair_getD tieI t cur (by rw [← HM.out]; exact ht)
      have hPlev : levs tieI cur = cur :: levs tieI P := by rw [hP]; exact levs_long tieI cur (by rw [← HM.out]; omega)
      have HPL2 := Lib.hid hPl
      have HPU := Lib.hid hPu
      have HPG := Lib.hid hPg
      have HPLEV := Lib.hid hPlev
      have HM2 := Lib.hid hm2
      have bm : m2 < m ∧ 1 ≤ m2 ∧ m ≤ 2 * m2 ∧ 2 * m2 ≤ m + 1 := by omega
      obtain ⟨bm1, bm2, bm3, bm4⟩ := bm
      have hq1 : decide (1 < (m : Int)) = true := by simp; omega
      clear hP hm2 hPl hPu hPg hPlev
      go_wp2_with fail
      obtain ⟨wo, hwo⟩ : ∃ wo : World, wo = wr := ⟨_, rfl⟩
      subst hwo
      have hlitn : wo.ownsRow wo.heap.size 31 1 (.slice none 0 0) 0 (vints .u64 []) := ⟨rfl, .inl ⟨rfl, rfl⟩⟩
      go_loopg [5, 6] m2 (fun gi vn vi wx => ∃ t : Nat, t ≤ m2 ∧ gi = m2 - t ∧ vi = .int .i64 (2 * t : Nat) ∧ wx.ownsRow wo.heap.size 31 1 vn t (vints .u64 (P.take t)) ∧ Below wo.heap.size wo wx)
      case atStart => exact ⟨0, by omega, rfl, rfl, hlitn, Below.refl _ _⟩
      case round =>
        clear hlitn
        obtain ⟨t, t1, t2, rfl, hnx, hbx⟩ := hrel
        have T2 := Lib.hid t2
        have HNX := Lib.hid hnx
        clear t2 hnx
        obtain ⟨i, hi⟩ : ∃ i, i = 2 * t := ⟨_, rfl⟩
        rw [← hi]
        have HI := Lib.hid hi
        by_cases q2 : t < m2
        · have q3 : i < m := by omega
          have hcu := own_below HCUR.out hbx
          have e1 := (hcu.cellAt i (by omega)).trans (vints_get .u64 cur i (by rw [← HM.out]; exact q3))
          obtain ⟨x, hx, lx⟩ := (HUC.out.getD_in i).nat
          rw [hx] at e1
          have hpg := HPG.out t (by omega)
          rw [← hi] at hpg
          have htk : P.take (t + 1) = P.take t ++ [P.getD t 0] := take_snocS P t 0 (by rw [HPL2.out]; exact q2)
          have i1 : (0 : Int) ≤ (i : Int) := by omega
          have i2 : (i : Int) < (m : Int) := by omega
          by_cases q4 : i + 1 < m
          · have e2 := (hcu.cellAt (i + 1) (by omega)).trans (vints_get .u64 cur (i + 1) (by rw [← HM.out]; exact q4))
            obtain ⟨y, hy, ly⟩ := (HUC.out.getD_in (i + 1)).nat
            rw [hy] at e2
            rw [if_pos q4, hx, hy, tieI_nat x y lx ly] at hpg
            have cj := sum_Join x y lx ly
            have lz := tie_lt x y
            obtain ⟨z, hz⟩ : ∃ z, z = tied x y := ⟨_, rfl⟩
            rw [← hz] at cj lz hpg
            rw [hpg] at htk
            have HTK := Lib.hid htk
            have CJ := Lib.hid cj
            have i3 : (i : Int) + 1 < (m : Int) := by omega
            clear hcu hpg htk cj hz hx hy hi
            go_wp2_with fail
            obtain ⟨i0, hi0, hz0, hz1, hz2⟩ := info_parts (show (Try.prog.info? 31).map (fun i => (i.zero, i.size, i.bytes)) = some (some (.int .u64 0), 1, 8) by kernel_rfl)
            have hxx := hbx.size
            have lgc := World.block_lt_of_cell? _ _ e1
            have lgo : ∀ g, u5.ownBlock = some g → gc ≠ g := fun g hg => by
              have h1 := (own_lt HNX.out g hg).1
              have h2 := (own_lt HCUR.out gc rfl).2
              omega
            have LGO := Lib.hid lgo
            clear lgo
            have j1 : IntKind.i64.wrap ((i : Int) + 1) = (i : Int) + 1 := by rw [IntKind.wrap_i64]; omega
            have j2 : (0 : Int) ≤ (i : Int) + 1 := by omega
            have j3 : ((i : Int) + 1).toNat = i + 1 := by omega
            go_region_held3 (fun w' => w'.cell? ⟨gc, i, none⟩ = some (.int .u64 x) ∧ w'.cell? ⟨gc, i + 1, none⟩ = some (.int .u64 y))
              (first
                | exact ⟨e1, e2⟩
                | go_keep
                | (go_split_ands
                   refine ⟨?_, ?_⟩
                   · (rw [hgrow.cell_far _ (by simp; omega) (fun h => LGO.out _ h.symm rfl)]; assumption)
                   · (rw [hgrow.cell_far _ (by simp; omega) (fun h => LGO.out _ h.symm rfl)]; assumption)))
              (first
                | (go_at_call 38; refine (CJ.out _).mono ?_; rintro e w8 ⟨rfl, rfl⟩)
                | (refine step_append_lies _ (by rfl) _ _ _ (by rfl) wo.heap.size 31 i0 _ 1 8 Try.underlying34 hi0 hz0 hz1 hz2 rfl (by omega) u5 t (vints .u64 (P.take t)) (by rfl) ((HNX.out.alloc _).drew) ⟨wr.heap.size, 0, none⟩ 1 1 [.int .u64 z] (by rfl) (by rfl) (World.news_of_block (cs := #[.int .u64 z]) (t := 31) (fr := (0, 0)) (heap_alloc_new wr _)) (by simp [Value.oneCell']) (by omega) (by unfold maxLen; omega) (by omega) (by simp; omega) (wr.heap.size + 1) (by simp) ?_; intro gg cap w1 hown1 hgrow hat hlt))
            have hbn : Below wo.heap.size wo w1 := ((hbx.alloc hbx.size _).drew).grown hgrow (by simp; omega) (fun j hj => (own_lt HNX.out j hj).1)
            have hst : vints .u64 (P.take (t + 1)) = vints .u64 (P.take t) ++ [Value.int .u64 z] := by rw [HTK.out]; simp [vints]
            rw [← hst] at hown1
            have HO1 := Lib.hid hown1
            clear hown1 hst hgrow hat hbx
            go_wp2
            go_roundg (m2 - (t + 1))
            case measure => rw [T2.out]; omega
            case rel => exact ⟨t + 1, by omega, rfl, by rw [show ((2 * (t + 1) : Nat) : Int) = (i : Int) + 2 by have := HI.out; omega], HO1.out, hbn⟩
          · rw [if_neg q4, hx] at hpg
            rw [hpg] at htk
            have HTK := Lib.hid htk
            have i3 : (m : Int) ≤ (i : Int) + 1 := by omega
            clear hcu hpg htk hx hi
            go_wp2_with (at_builtin; go_must (refine wpList_append_new rfl _ _ 34 rfl wo.heap.size 31 (.int .u64 0) 1 8 Try.underlying34 (by kernel_rfl) rfl (by decide) _ _ _ rfl HNX.out _ _ rfl rfl rfl (by omega) (by decide) hbx.size ?_))
            intro g' cap' w' hown' hg hor hlt'
            have hbn : Below wo.heap.size wo w' := hbx.grown hg hbx.size (fun j hj => (own_lt HNX.out j hj).1)
            have hst : vints .u64 (P.take (t + 1)) = vints .u64 (P.take t) ++ [Value.int .u64 x] := by rw [HTK.out]; simp [vints]
            rw [← hst] at hown'
            have HO1 := Lib.hid hown'
            clear hown' hst hg hor hbx
            go_wp2
            go_roundg (m2 - (t + 1))
            case measure => rw [T2.out]; omega
            case rel => exact ⟨t + 1, by omega, rfl, by rw [show ((2 * (t + 1) : Nat) : Int) = (i : Int) + 2 by have := HI.out; omega], HO1.out, hbn⟩
        · obtain rfl : t = m2 := by omega
          have ep : P.take t = P := List.take_of_length_le (by rw [HPL2.out]; omega)
          have hnx := HNX.out
          rw [ep] at hnx
          obtain ⟨gn, cn, rfl, hgn, lgn⟩ := hnx.form (by omega)
          have HNX2 := Lib.hid hnx
          have q3 : ¬ i < m := by omega
          have hq3 : decide (i < m) = false := by simp; omega
          have q4 : (m : Int) ≤ (i : Int) := by omega
          have HOUT2 := Lib.hid (own_below HOUT.out hbx)
          have HROWS2 := Lib.hid (HROWS.out.keep fun _ _ _ _ h => own_below h hbx)
          have HCUR2 := Lib.hid (own_below HCUR.out hbx)
          have hbw2 := hbw.trans (hbx.mono hbw.size)
          have hD : w.heap.size ≤ wo.heap.size := hbw.size
          clear hnx ep HNX HOUT HROWS HCUR hi hbx
          obtain ⟨i0, hi0, hz0, hz1, hz2⟩ := info_parts (show (Try.prog.info? 34).map (fun i => (i.zero, i.size, i.bytes)) = some (some (.slice none 0 0), 1, 24) by kernel_rfl)
          have hplm : pl + t + 1 ≤ 8193 := by omega
          go_wp2_with (at_builtin; go_must (refine wpList_append_lies _ rfl _ _ 77 rfl w.heap.size 34 i0 (.slice none 0 0) 1 24 Try.underlying77 hi0 hz0 hz1 hz2 rfl (by omega) (.slice (some ⟨go_, 0, none⟩) (pl + 1) co) (pl + 1) (vs ++ [.slice (some ⟨gc, 0, none⟩) m cc]) rfl (by rw [HPL.out]; exact HOUT2.out.alloc _) ⟨wr.heap.size, 0, none⟩ 1 1 [.slice (some ⟨gn, 0, none⟩) t cn] rfl rfl (World.news_of_block (cs := #[.slice (some ⟨gn, 0, none⟩) t cn]) (t := 34) (fr := (0, 0)) (heap_alloc_new wr _)) (by simp [Value.oneCell']) (by omega) (by unfold maxLen; omega) (by omega) (by simp; omega) (wr.heap.size + 1) (by simp) ?_))
          intro gg cap2 w3 hown3 hgrow hat hlt
          have hal := (Below.refl wr.heap.size wr).alloc (Nat.le_refl _) (.cells #[Value.slice (some ⟨gn, 0, none⟩) t cn] 34)
          have hou := own_below HOUT2.out hal
          have hne : ∀ base n v xs, (wr.alloc (.cells #[Value.slice (some ⟨gn, 0, none⟩) t cn] 34)).ownsRow base 31 1 v n xs → w3.ownsRow base 31 1 v n xs := fun base n v xs h =>
            own_grown h hgrow (fun g hg => own_other h hou (by decide) g hg)
          have hbw3 : Below w.heap.size w w3 := (hbw2.alloc hbw2.size _).grown hgrow (by have := hbw2.size; simp; omega) (fun j hj => (own_lt hou j hj).1)
          have HC3 := Lib.hid (hne _ _ _ _ (own_below HCUR2.out hal))
          have HR3 := Lib.hid ((HROWS2.out.keep fun _ _ _ _ h => own_below h hal).keep hne)
          have HN3 := Lib.hid (own_base (base2 := w.heap.size) (hne _ _ _ _ (own_below HNX2.out hal)) (fun g hg => by
            have := (own_lt (hne _ _ _ _ (own_below HNX2.out hal)) g hg).1
            omega))
          have HO3 := Lib.hid hown3
          clear hown3 hgrow hat hou hne hal hi0 hz0 hz1 hz2
          go_wp2
          go_roundg t
          case measure => rw [HG.out]; exact bm1
          case rel =>
            refine ⟨pre ++ [cur], P, vs ++ [.slice (some ⟨gc, 0, none⟩) m cc], t, gn, cn, gg, cap2, rfl, HPL2.out.symm, bm2, ?_, rfl, ?_, ?_, ?_, HN3.out, ?_, HPU.out, hbw3⟩
            · rw [List.length_append, List.length_singleton, ← HPL.out]; omega
            · rw [List.length_append, List.length_singleton, ← HPL.out]
            · rw [List.length_append, List.length_singleton, ← HPL.out, List.append_assoc]; exact HO3.out
            · exact HR3.out.snoc HM.out HC3.out
            · rw [← HLEV.out, HPLEV.out]; simp
    · have e1 : levs tieI cur = [cur] := levs_short tieI cur (by rw [← HM.out]; omega)
      have hl : levs tieI l = pre ++ [cur] := by rw [← HLEV.out, e1]
      have hlen : (pre ++ [cur]).length = pl + 1 := by rw [List.length_append, List.length_singleton, ← HPL.out]
      have hrows := HROWS.out.snoc HM.out HCUR.out
      have hout := HOUT.out
      rw [← HPL.out, ← hlen] at hout
      have hfin := lev_of_rows hrows hout (by rw [hlen]; omega)
      rw [hlen, ← hl] at hfin
      have HFIN := Lib.hid hfin
      clear e1 hl hlen hrows hout hfin
      go_wp2
      go_ret
      exact ⟨_, rfl, HFIN.out, hbw⟩
end Go.Proofs.Ytncnbfefciobcaa
end
/- merkle.filled. -/
section
namespace Go.Proofs.Ytncnbfefciobcaa
open Go.ChangeShapes Go.WideShapes Go.ChangeAt Go.RowKit Go.Mem Go.Mk
set_option linter.unusedVariables false

def compl (z : Int) : Int := 18446744073709551615 - z
def fill (a b : List Int) : List Int := a ++ (b.drop a.length).map compl
theorem fill_length (a b : List Int) : (fill a b).length = max a.length b.length := by simp [fill]; omega
theorem fill_u64 (a b : List Int) (ha : U64s a) (hb : U64s b) : U64s (fill a b) := by
  intro z hz
  rcases List.mem_append.1 hz with h | h
  · exact ha z h
  · obtain ⟨y, hy, rfl⟩ := List.mem_map.1 h
    have := hb y (List.mem_of_mem_drop hy)
    unfold compl; omega
/-- A slice of words that the call has made. -/
def SlicePost (zs : List Int) (w : World) (e : Ending) (w' : World) : Prop := ∃ a cap, e = .returned (.slice a zs.length cap) ∧ zs.length ≤ cap ∧ IntsAt .u64 w' a zs ∧ Below w.heap.size w w'
theorem own_slice2 {w : World} {base e n : Nat} {k : IntKind} {v : Value} {zs : List Int} (h : w.ownsRow base e 1 v n (vints k zs)) : ∃ a cap, v = .slice a n cap ∧ n ≤ cap ∧ IntsAt k w a zs := by
  rcases h.2 with ⟨h1, h2⟩ | ⟨g, cap, cur, h1, h2, h3, h4, h5⟩
  · subst h1
    subst h2
    refine ⟨none, 0, rfl, Nat.le_refl _, fun hh => ?_⟩
    have := h.1
    rw [vints_length] at this
    omega
  · subst h1
    exact ⟨some ⟨g, 0, none⟩, cap, rfl, h4, IntsAt.of_own h (by have := h.1; rw [vints_length] at this; omega)⟩

set_option maxHeartbeats 4000000 in
theorem merkle_filled (la lb : List Int) (a b : Option Addr) (n m ca cb : Nat) (hn : la.length = n) (hm : lb.length = m) (h1 : n ≤ 8192) (h2 : m ≤ 8192) (ha : U64s la) (hb : U64s lb) (w : World) (hia : IntsAt .u64 w a la) (hib : IntsAt .u64 w b lb) :
    Calls Try.prog 30 #[.slice a n ca, .slice b m cb] w (SlicePost (fill la lb) w) := by
  have HN := Lib.hid hn
  have HM := Lib.hid hm
  have HUB := Lib.hid hb
  have HIA := Lib.hid hia
  have HIB := Lib.hid hib
  have hnil : w.ownsRow w.heap.size 31 1 (.slice none 0 0) 0 (vints .u64 []) := ⟨rfl, .inl ⟨rfl, rfl⟩⟩
  have HNIL := Lib.hid hnil
  clear hn hm ha hb hia hib hnil
  go_enter Try.func30, Try.ntmps30
  go_wp2_with (at_builtin; go_must (refine wpList_append_ints rfl _ _ 34 rfl w.heap.size 31 .u64 8 Try.underlying34 (by kernel_rfl) (.slice none 0 0) 0 [] rfl HNIL.out a n ca la rfl HN.out HIA.out (by unfold maxLen; omega) (by omega) (Nat.le_refl _) ?_))
  intro v0 w1 hown hgr hat
  have hb1 : Below w.heap.size w w1 := (Below.refl _ _).grown hgr (Nat.le_refl _) (fun k hk => by cases hk)
  have HOWN := Lib.hid hown
  clear hgr hat hown HNIL
  go_wp2
  obtain ⟨C, hC⟩ : ∃ C, C = fill la lb := ⟨_, rfl⟩
  have hCl : C.length = max n m := by rw [hC, fill_length, HN.out, HM.out]
  have hC0 : C.take n = la := by rw [hC, fill, List.take_left' HN.out]
  have hCg : ∀ k, n ≤ k → k < m → C.getD k 0 = compl (lb.getD k 0) := fun k h1 h2 => by
    have e : k - la.length < (lb.drop la.length).length := by rw [List.length_drop, HN.out, HM.out]; omega
    have e2 : k < lb.length := by rw [HM.out]; exact h2
    rw [hC, fill, List.getD_eq_getElem?_getD, List.getElem?_append_right (by rw [HN.out]; exact h1), List.getElem?_map, List.getElem?_drop, show la.length + (k - la.length) = k by rw [HN.out]; omega]
    simp [e2]
  have HCL := Lib.hid hCl
  have HC0 := Lib.hid hC0
  have HCG := Lib.hid hCg
  have HCF := Lib.hid hC
  clear hC hCl hC0 hCg
  go_loopg [5, 6] (m - n) (fun gk v vi wx => ∃ k : Nat, gk = m - k ∧ n ≤ k ∧ (k = n ∨ k ≤ m) ∧ vi = .int .i64 k ∧ wx.ownsRow w.heap.size 31 1 v k (vints .u64 (C.take k)) ∧ Below w.heap.size w wx)
  case atStart => exact ⟨n, rfl, Nat.le_refl _, Or.inl rfl, rfl, by rw [HC0.out]; exact HOWN.out, hb1⟩
  case round =>
    clear hb1 HOWN
    obtain ⟨k, hg, k1, k2, rfl, hown, hb1⟩ := hrel
    have HG := Lib.hid hg
    have HO := Lib.hid hown
    clear hg hown
    by_cases hlt : k < m
    · obtain ⟨x, rfl, hx, hc⟩ := (HIB.out.below hb1) (by rw [HM.out]; omega)
      have hcell := hc k (by rw [HM.out]; exact hlt)
      obtain ⟨z, hz, lz⟩ := (HUB.out.getD_in k).nat
      rw [hz] at hcell
      have hcg := HCG.out k k1 hlt
      rw [hz] at hcg
      have hx2 := W64.xor_max z lz
      obtain ⟨y, hy⟩ : ∃ y, y = 18446744073709551615 - z := ⟨_, rfl⟩
      rw [← hy] at hx2
      have hcg2 : C.getD k 0 = (y : Int) := by rw [hcg]; unfold compl; omega
      have htk : vints .u64 (C.take (k + 1)) = vints .u64 (C.take k) ++ [Value.int .u64 y] := by
        rw [take_snocS C k 0 (by rw [HCL.out]; omega), hcg2]; simp [vints]
      have HTK := Lib.hid htk
      clear hc hcg hcg2 htk hz hy
      go_wp2_with (at_builtin; go_must (refine wpList_append_new rfl _ _ 34 rfl w.heap.size 31 (.int .u64 0) 1 8 Try.underlying34 (by kernel_rfl) rfl (by decide) _ _ _ rfl HO.out _ _ rfl rfl rfl (by omega) (by decide) hb1.size ?_))
      intro g' cap' w' hown' hg hor hlt'
      have hbn : Below w.heap.size w w' := hb1.grown hg hb1.size (fun j hj => (own_lt HO.out j hj).1)
      have ho : w'.ownsRow w.heap.size 31 1 (.slice (some ⟨g', 0, none⟩) (k + 1) cap') (k + 1) (vints .u64 (C.take (k + 1))) := by rw [HTK.out]; exact hown'
      have HO1 := Lib.hid ho
      clear hown' ho hg hor hb1
      go_wp2
      go_roundg (m - (k + 1))
      case measure => rw [HG.out]; omega
      case rel => exact ⟨k + 1, rfl, by omega, Or.inr (by omega), by go_num, HO1.out, hbn⟩
    · have ek : k = max n m := by omega
      have et : C.take k = C := List.take_of_length_le (by rw [HCL.out]; omega)
      have ho := HO.out
      rw [et] at ho
      obtain ⟨av, cv, rfl, hcv, hiv⟩ := own_slice2 ho
      have hl : C.length = k := by rw [HCL.out, ek]
      have HL := Lib.hid hl
      have HIV := Lib.hid hiv
      clear ek et ho hl hiv HO
      have hlt' : (m : Int) ≤ k := by omega
      go_wp2
      go_ret
      exact ⟨av, cv, by rw [← HCF.out, HL.out]; rfl, by rw [← HCF.out, HL.out]; exact hcv, by rw [← HCF.out]; exact HIV.out, hb1⟩
end Go.Proofs.Ytncnbfefciobcaa
end
