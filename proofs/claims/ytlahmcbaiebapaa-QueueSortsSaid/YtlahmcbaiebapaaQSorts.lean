/- tourlaw1.QueueSorts: the law's walk. -/
import Derived.Test.YtlahmcbaiebapaaQCmp
namespace Go.Proofs.Ytlahmcbaiebapaa
open Go.ChangeShapes Go.WideShapes Go.ChangeAt Go.RowKit Go.Mem Go.Sb Go.Qs
set_option linter.unusedVariables false

set_option maxHeartbeats 16000000 in
set_option maxRecDepth 100000 in
theorem law_QueueSorts (zs : List Int) (a : Option Addr) (n c : Nat) (hl : zs.length = n) (hn : n ≤ 140737488355328) (W : World) (hz : IntsAt .i64 W a zs) :
    Calls Try.prog 6 #[.slice a n c] W fun e w' => e = .returned (.bool true) ∧ Below W.heap.size W w' := by
  have HL := Lib.hid hl
  have HBX := Lib.hid (heap_alloc_new W (.cells #[.slice a n c] 23))
  have HB1 := Lib.hid ((Below.refl W.heap.size W).alloc (Nat.le_refl _) (.cells #[.slice a n c] 23))
  have HZ1 := Lib.hid hz
  have HTWO := Lib.hid (fun (w1 : World) (t : TypeId) (g : Nat) (hg : w1.heap.size = g) => Qint.q_sort [2, 1] (some ⟨g, 0, none⟩) 2 2 rfl (by decide) (w1.alloc (.cells #[.int .i64 2, .int .i64 1] t)) (by subst hg; exact ints_two .i64 w1 2 1 t))
  clear hl hz
  go_enter Try.func6, Try.ntmps6
  go_wp2_with fail
  refine (HTWO.out _ _ _ (by simp)).mono ?_
  rintro e w1 ⟨v1, R1, rfl, r1, r2, own1, bel1⟩
  obtain rfl := two_sorts r1 r2
  obtain ⟨a1, c1, rfl, _, _⟩ := own_slice own1
  have in1 := IntsAt.of_own own1 rfl
  have b1 : Below W.heap.size W w1 := HB1.out.trans (((Below.refl _ _).alloc (Nat.le_refl _) _ |>.trans (bel1.mono (by simp))).mono (by simp))
  have hbx1 := Lib.hid (heap_below HBX.out ((Below.refl _ _).alloc (Nat.le_refl _) _ |>.trans (bel1.mono (by simp))))
  have HE := Lib.hid (fun (t : TypeId) => eq_ints a1 (some ⟨w1.heap.size, 0, none⟩) c1 2 [1, 0] [1, 0] (by decide) (by decide) (w1.alloc (.cells #[.int .i64 1, .int .i64 0] t)) (in1.below ((Below.refl _ _).alloc (Nat.le_refl _) _)) (ints_two .i64 w1 1 0 t))
  have HB1' := Lib.hid b1
  have k0 : w1.cell? ⟨W.heap.size, 0, none⟩ = some (.slice a n c) := by rw [cell_of_row w1 W.heap.size 0 _ _ _ hbx1.out]; rfl
  clear r1 r2 own1 bel1 in1 b1
  go_wp2_with fail
  refine (HE.out _).mono ?_
  rintro e w2 ⟨rfl, b2⟩
  have hb2 := ((Below.refl w1.heap.size w1).alloc (Nat.le_refl _) (.cells #[.int .i64 1, .int .i64 0] 3)).trans (b2.mono (by simp))
  clear b2 k0
  have HB2 := Lib.hid (HB1'.out.trans (hb2.mono HB1'.out.size))
  have HBX2 := Lib.hid (heap_below hbx1.out hb2)
  have k0 : w2.cell? ⟨W.heap.size, 0, none⟩ = some (.slice a n c) := by rw [cell_of_row w2 W.heap.size 0 _ _ _ HBX2.out]; rfl
  clear hb2 HE hbx1 HB1' HTWO
  by_cases hs : n ≤ 4096
  · have HSO := Lib.hid (Qint.q_sort zs a n c HL.out hs w2 (HZ1.out.below HB2.out))
    go_wp2_with fail
    refine HSO.out.mono ?_
    rintro e w3 ⟨v3, R, rfl, r1, r2, own3, bel3⟩
    have hrl : R.length = n := by rw [r2.length_eq, iota_len, HL.out]
    obtain ⟨a3, c3, rfl, _, _⟩ := own_slice own3
    have in3 := IntsAt.of_own own3 rfl
    have lt3 := own_lt own3
    rw [hrl]
    have HRL := Lib.hid hrl
    have HR1 := Lib.hid r1
    have HR2 := Lib.hid r2
    have HIN3 := Lib.hid in3
    have HB3 := Lib.hid (HB2.out.trans (bel3.mono HB2.out.size))
    have HBX3 := Lib.hid (heap_below HBX2.out bel3)
    have k3 : w3.cell? ⟨W.heap.size, 0, none⟩ = some (.slice a n c) := by rw [cell_of_row w3 _ 0 _ _ _ HBX3.out]; rfl
    clear hrl r1 r2 own3 bel3 in3 lt3 k0 HSO
    go_wp2_with (at_make; go_must (refine wpList_make_rowB rfl _ _ 23 rfl 3 .i64 8 Try.underlying23 (by kernel_rfl) _ _ _ _ n rfl rfl rfl rfl ?b1 ?b2 ?_))
    case b1 => omega
    case b2 => unfold maxLen; omega
    intro w4 hro hb4 hz4
    have hst0 : StS w3.heap.size w3 w4 (iotaF 0 0 ++ List.replicate (n - 0) 0) := ⟨by simpa [iotaF] using hro, hb4⟩
    have HST0 := Lib.hid hst0
    obtain ⟨G, hG⟩ : ∃ G, G = w3.heap.size := ⟨_, rfl⟩
    rw [← hG] at HST0 ⊢
    have HG := Lib.hid hG
    clear hst0 hro hb4 hz4 hG k3
    go_wp2_with fail
    go_loopg [8, 42] n (fun gk v8 vi wx => ∃ i : Nat, i ≤ n ∧ gk = n - i ∧ vi = .int .i64 i ∧ StS G w3 wx (iotaF 0 i ++ List.replicate (n - i) 0))
    case atStart => exact ⟨0, Nat.zero_le _, rfl, rfl, HST0.out⟩
    case round =>
      clear HST0
      obtain ⟨i, hi, g2, rfl, hsi⟩ := hrel
      have G2 := Lib.hid g2
      have HS := Lib.hid hsi
      clear g2 hsi
      by_cases hlt : i < n
      · have f0 := HS.out.1.frozen i
        have ci := HS.out.1.cell i (by rw [List.length_append, iota_len, List.length_replicate]; omega)
        have hs2 := HS.out.set i (i : Int)
        rw [iota_set n i hlt] at hs2
        have HS2 := Lib.hid hs2
        clear hs2
        go_wp2_with fail
        go_roundg (n - (i + 1))
        case measure => rw [G2.out]; omega
        case rel => exact ⟨i + 1, hlt, rfl, by go_num, HS2.out⟩
      · have hs2 := HS.out
        rw [show i = n by omega, show n - n = 0 by omega, List.replicate_zero, List.append_nil] at hs2
        have HSS := Lib.hid (sort_stable 54 #[.pointer (some ⟨W.heap.size, 0, none⟩)] (kOf zs) n G w3 (cmp_ok a n c W.heap.size G zs HL.out (by omega) w3 HG.out.symm HBX3.out (HZ1.out.below HB3.out)) (enters_of Try.func54 (by kernel_rfl) rfl) n (by omega) wr hs2)
        clear hs2
        go_wp2_with fail
        refine HSS.out.mono ?_
        rintro e w5 ⟨D, s1, s2, rfl, hs5⟩
        have hDR : R = D := srt_uniq HR1.out s1 ((by rw [← HL.out] at s2; exact HR2.out.trans s2.symm))
        have hDl : D.length = n := by rw [s2.length_eq, iota_len]
        have HEQ := eq_ints a3 (some ⟨G, 0, none⟩) c3 n R D (by rw [HRL.out]; omega) (by omega) w5 (HIN3.out.below (by rw [← HG.out]; exact hs5.2)) hs5.1.ints
        rw [HRL.out, hDl, hDR, show decide (D = D) = true from by simp] at HEQ
        have HEQ2 := Lib.hid HEQ
        have HB5 := Lib.hid (HB3.out.trans (hs5.2.mono (by rw [HG.out]; exact HB3.out.size)))
        clear HSS hDR hDl HEQ hs5 s1 s2
        go_wp2_with fail
        refine HEQ2.out.mono ?_
        rintro e w6 ⟨rfl, b6⟩
        have HB6 := Lib.hid (HB5.out.trans (b6.mono HB5.out.size))
        clear b6
        go_wp2_with fail
        go_ret
        exact ⟨rfl, HB6.out⟩
  · have HSO := Lib.hid (Qint.sort_big a n c (by omega) (by omega) w2)
    go_wp2_with fail
    refine HSO.out.mono ?_
    rintro e w3 ⟨rfl, rfl⟩
    go_wp2_with fail
    go_ret
    exact ⟨rfl, HB2.out⟩
end Go.Proofs.Ytlahmcbaiebapaa
