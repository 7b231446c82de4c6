/- The reference's half, Top. -/
import Derived.Test.YtdhaaeaacbnghaaSum
import Derived.Test.YtdhaaeaacbnghaaMerkleP2
import Derived.Test.YtdhaaeaacbnghaaKeep
import Derived.Deep.RegionHeld3
namespace Go.Proofs.Ytdhaaeaacbnghaa
open Go.ChangeShapes Go.WideShapes Go.ChangeAt Go.RowKit Go.Mem Go.Mk
set_option linter.unusedVariables false

def tieI (a b : Int) : Int := ((tie (W64.u a) (W64.u b) : Nat) : Int)
def In64 (z : Int) : Prop := 0 ≤ z ∧ z < 18446744073709551616
theorem tieI_in (a b : Int) : In64 (tieI a b) := by
  have := tie_lt (W64.u a) (W64.u b)
  unfold tieI In64; omega
theorem tieI_nat (a b : Nat) (ha : a < 18446744073709551616) (hb : b < 18446744073709551616) : tieI a b = tie a b := by
  unfold tieI; rw [W64.u_nat a ha, W64.u_nat b hb]
theorem In64.nat {z : Int} (h : In64 z) : ∃ k : Nat, z = k ∧ k < 18446744073709551616 := ⟨z.toNat, by unfold In64 at h; omega, by unfold In64 at h; omega⟩
theorem U64s.take {l : List Int} (h : U64s l) (k : Nat) : U64s (l.take k) := fun z hz => h z (List.mem_of_mem_take hz)
theorem U64s.drop {l : List Int} (h : U64s l) (k : Nat) : U64s (l.drop k) := fun z hz => h z (List.mem_of_mem_drop hz)
theorem U64s.getD_in {l : List Int} (h : U64s l) (k : Nat) : In64 (l.getD k 0) := by
  by_cases hk : k < l.length
  · exact h _ (by simp [hk])
  · rw [List.getD_eq_getElem?_getD, List.getElem?_eq_none (by omega)]; show In64 0; unfold In64; omega
theorem top_in (l : List Int) (h : U64s l) : In64 (top tieI l) := by
  by_cases h2 : 2 ≤ l.length
  · rw [top_two tieI l h2]; exact tieI_in _ _
  · by_cases h1 : l.length = 1
    · rw [top_len1 tieI l h1]; exact h.getD_in 0
    · have : l = [] := List.eq_nil_of_length_eq_zero (by omega)
      subst this; show In64 0; unfold In64; omega

theorem keepI {k : IntKind} {w w1 w2 : World} {a : Option Addr} {zs : List Int} {B : Nat} (h : IntsAt k w1 a zs ∧ Below B w w1) (hb : Below w1.heap.size w1 w2) (hB : B ≤ w.heap.size) : IntsAt k w2 a zs ∧ Below B w w2 := ⟨h.1.below hb, h.2.trans (hb.mono (Nat.le_trans hB h.2.size))⟩
theorem fstI {k : IntKind} {w w1 : World} {a : Option Addr} {zs : List Int} {B : Nat} (h : IntsAt k w1 a zs ∧ Below B w w1) : IntsAt k w1 a zs := h.1
theorem sndI {k : IntKind} {w w1 : World} {a : Option Addr} {zs : List Int} {B : Nat} (h : IntsAt k w1 a zs ∧ Below B w w1) : Below B w w1 := h.2
theorem ref_half (n : Nat) (h1 : 1 ≤ n) (h2 : n ≤ 1152921504606846976) (w : World) : Calls Try.prog 97 #[.int .i64 n] w fun e w' => e = .returned (.int .i64 (hf n : Nat)) ∧ w = w' := by
  go_enter Try.func97, Try.ntmps97
  go_wp2
  go_loopg [3] (n - 1) (fun gk vk wx => ∃ (j k : Nat), k = 2 ^ j ∧ (k = 1 ∨ k < n) ∧ gk = n - k ∧ vk = .int .i64 k ∧ w = wx)
  case atStart => exact ⟨0, 1, rfl, Or.inl rfl, rfl, rfl, rfl⟩
  case round =>
    obtain ⟨j, k, hk, hkn, hg, rfl, rfl⟩ := hrel
    have kp : 1 ≤ k := by rw [hk]; exact Nat.two_pow_pos j
    have HK := Lib.hid hk
    have HG := Lib.hid hg
    have kb : k ≤ n := by omega
    have HKN := Lib.hid hkn
    clear hk hg hkn
    by_cases q : 2 * k < n
    · have q' : 2 * (k : Int) < n := by omega
      go_wp2
      go_roundg (n - 2 * k)
      case measure => rw [HG.out]; omega
      case rel => exact ⟨j + 1, 2 * k, by rw [HK.out, Nat.pow_succ, Nat.mul_comm], Or.inr q, rfl, by go_num, rfl⟩
    · have e : hf n = k := by
        rcases HKN.out with h | h
        · by_cases hn : n = 1
          · rw [hn, hf_one, h]
          · rw [HK.out]; exact hf_unique n j (by rw [← HK.out]; omega) (by rw [← HK.out]; omega)
        · rw [HK.out]; exact hf_unique n j (by rw [← HK.out]; exact h) (by rw [← HK.out]; omega)
      have E := Lib.hid e
      clear e
      have q' : ¬ 2 * (k : Int) < n := by omega
      go_wp2
      go_ret
      exact ⟨by rw [E.out]; rfl, rfl⟩

set_option maxHeartbeats 4000000 in
theorem ref_Top : ∀ (n : Nat) (l : List Int) (a : Option Addr) (cap : Nat) (w : World), l.length = n → n ≤ cap → cap ≤ 9223372036854775807 → n ≤ 17592186044416 → U64s l → IntsAt .u64 w a l →
    Calls Try.prog 78 #[.slice a n cap] w fun e w' => e = .returned (.int .u64 (top tieI l)) ∧ Below w.heap.size w w' := by
  intro n
  induction n using Nat.strongRecOn with
  | _ n ih =>
    intro l a cap w hl hc hc2 hc3 hu hin
    by_cases h0 : n = 0
    · subst h0
      have : l = [] := List.eq_nil_of_length_eq_zero hl
      subst this
      have ht : top tieI [] = 0 := rfl
      rw [ht]
      clear ih hu hin ht
      go_enter Try.func78, Try.ntmps78
      go_wp2
      go_ret
      exact ⟨rfl, Below.refl _ _⟩
    · obtain ⟨x, rfl, hx, hcell⟩ := hin (by omega)
      by_cases h1 : n = 1
      · subst h1
        have c0 := hcell 0 (by omega)
        have ht : top tieI l = l.getD 0 0 := top_len1 tieI l hl
        rw [ht]
        obtain ⟨z, hz⟩ : ∃ z, z = l.getD 0 0 := ⟨_, rfl⟩
        rw [← hz] at c0 ⊢
        have e0 : x.add 0 = x := by simp [Addr.add]
        rw [e0] at c0
        clear ih hu hin ht hz hcell e0
        go_enter Try.func78, Try.ntmps78
        go_wp2
        go_ret
        exact ⟨rfl, Below.refl _ _⟩
      · have h2 : 2 ≤ n := by omega
        obtain ⟨s1, s2⟩ := hf_spec n h2
        have s3 := hf_pos n
        have ht := top_two tieI l (by omega)
        rw [hl] at ht
        have hh := ref_half n (by omega) (by omega)
        obtain ⟨k, hk⟩ : ∃ k, k = hf n := ⟨_, rfl⟩
        rw [← hk] at s1 s2 s3 ht hh
        obtain ⟨A, hA, lA⟩ := (top_in (l.take k) (hu.take k)).nat
        obtain ⟨B, hB, lB⟩ := (top_in (l.drop k) (hu.drop k)).nat
        rw [hA, hB, tieI_nat A B lA lB] at ht
        rw [ht]
        have ct1 : ∀ w' : World, IntsAt .u64 w' (some x) l → Calls Try.prog 78 #[.slice (some x) k cap] w' fun e w2 => e = .returned (.int .u64 A) ∧ Below w'.heap.size w' w2 := fun w' h => by
          rw [← hA]; exact ih k s1 (l.take k) (some x) cap w' (by simp; omega) (by omega) hc2 (by omega) (hu.take k) (h.take k)
        have ct2 : ∀ w' : World, IntsAt .u64 w' (some x) l → Calls Try.prog 78 #[.slice (some (x.add k)) (n - k) (cap - k)] w' fun e w2 => e = .returned (.int .u64 B) ∧ Below w'.heap.size w' w2 := fun w' h => by
          have h' := h.cut k cap (by omega)
          rw [if_neg (by omega)] at h'
          rw [← hB]; exact ih (n - k) (by omega) (l.drop k) (some (x.add k)) (cap - k) w' (by simp; omega) (by omega) (by omega) (by omega) (hu.drop k) h'
        have ct := ref_Tied A B lA lB
        obtain ⟨D, hD⟩ : ∃ D, D = tie A B := ⟨_, rfl⟩
        rw [← hD] at ct ⊢
        have HH := Lib.hid hh
        have C1 := Lib.hid ct1
        have C2 := Lib.hid ct2
        have CT := Lib.hid ct
        have HI := Lib.hid hin
        have hkc : k ≤ cap := by omega
        have hkn : k ≤ n := by omega
        have hck : ¬ cap = k := by omega
        clear ih hu hin hcell ht hA hB hD hk hh ct1 ct2 ct
        go_enter Try.func78, Try.ntmps78
        go_wp2_with (go_at_call 97; refine (HH.out _).mono ?_; rintro e w1 ⟨rfl, rfl⟩)
        go_region_held3 (fun w' => IntsAt .u64 w' (some x) l ∧ Below w.heap.size w w')
          (first | exact ⟨HI.out.drew, (Below.refl _ _).drew⟩ | exact keepI (by assumption) (by assumption) (Nat.le_refl _))
          (first
            | (go_at_call 78; (with_reducible refine (C1.out _ (fstI (by assumption))).mono ?_); rintro e w8 ⟨rfl, hb8⟩)
            | (go_at_call 78; (with_reducible refine (C2.out _ (fstI (by assumption))).mono ?_); rintro e w9 ⟨rfl, hb9⟩)
            | (go_at_call 22; refine (CT.out _).mono ?_; rintro e w7 ⟨rfl, hb7⟩))
        go_wp2
        go_ret
        exact ⟨rfl, sndI (by assumption)⟩
end Go.Proofs.Ytdhaaeaacbnghaa
