/- bits.Writer: Put, Len, Bytes. -/
import Derived.Test.YtdhaaeaacbnghaaGrown
import Derived.Test.YtdhaaeaacbnghaaBitsP3
import Derived.BigQuiet
import Derived.Deep.QuietTactic
import Derived.Deep.LoopGhost
import Derived.Deep.DeepMust
import Derived.Laws.OwnMore
import Derived.StillTailTactics
import Derived.Test.YtdhaaeaacbnghaaRows
namespace Go.Proofs.Ytdhaaeaacbnghaa
open Go.ChangeShapes Go.WideShapes Go.ChangeAt Go.RowKit Go.Mem Go.Bp
set_option linter.unusedVariables false

/-- A writer that has the bits L. -/
structure Wr (w : World) (D g : Nat) (v : Value) (L : List Bool) : Prop where
  block : w.heap[g]? = some (.cells #[v, .int .i64 L.length] 82 (0, 0))
  own : w.ownsRow D 5 1 v ((L.length + 7) / 8) (vints .u8 (packB L))
  dg : D ≤ g
def PutPost (w : World) (D g : Nat) (v : Value) (r : Nat × List Bool) (e : Ending) (w' : World) : Prop :=
  e = .returned (.int .i64 r.1) ∧ ∃ v', Wr w' D g v' r.2 ∧ Gr2 w w' (some g) v.ownBlock ∧ (∀ b, v'.ownBlock = some b → v.ownBlock = some b ∨ w.heap.size ≤ b)

theorem wr_Put_arg (w : World) (g v : Nat) (n : Int) (hv : v < 18446744073709551616) (h : n < 0 ∨ 64 < n ∨ v / 2 ^ n.toNat ≠ 0) :
    Calls Try.prog 54 #[.pointer (some ⟨g, 0, none⟩), .int .u64 v, .int .i64 n] w fun e w' => e = .returned (.int .i64 1) ∧ w = w' := by
  rcases (show n < 0 ∨ (0 ≤ n ∧ 64 < n) ∨ ((0 ≤ n ∧ n ≤ 64) ∧ v / 2 ^ n.toNat ≠ 0) by omega) with q | ⟨q, q2⟩ | ⟨⟨q, q2⟩, q3⟩
  · clear h
    go_enter Try.func54, Try.ntmps54
    go_wp2
    go_ret
    exact ⟨rfl, rfl⟩
  · clear h
    go_enter Try.func54, Try.ntmps54
    go_wp2
    go_ret
    exact ⟨rfl, rfl⟩
  · obtain ⟨k, rfl⟩ : ∃ k : Nat, n = k := ⟨n.toNat, by omega⟩
    rw [Int.toNat_natCast] at q3
    have h64 : k < 64 := by
      rcases Nat.lt_or_ge k 64 with h1 | h1
      · exact h1
      · exfalso; apply q3; have : k = 64 := by omega
        subst this; rw [Nat.div_eq_of_lt (by rw [show 2 ^ 64 = 18446744073709551616 by decide]; exact hv)]
    obtain ⟨u, hu⟩ : ∃ u, u = v / 2 ^ k := ⟨_, rfl⟩
    have e : (v : Int) / 2 ^ k = u := by rw [div_cast, hu]
    have e2 : ((u : Int) != 0) = true := by simp; rw [← hu] at q3; omega
    clear h q3 hu
    go_enter Try.func54, Try.ntmps54
    go_wp2
    go_ret
    exact ⟨rfl, rfl⟩

theorem Wr.c1 {w : World} {D g : Nat} {v : Value} {L : List Bool} (h : Wr w D g v L) : w.cell? ⟨g, 1, none⟩ = some (.int .i64 L.length) := by rw [cell_of_row w g 1 _ _ _ h.block]; rfl
theorem Wr.c0 {w : World} {D g : Nat} {v : Value} {L : List Bool} (h : Wr w D g v L) : w.cell? ⟨g, 0, none⟩ = some v := by rw [cell_of_row w g 0 _ _ _ h.block]; rfl
theorem Wr.f1 {w : World} {D g : Nat} {v : Value} {L : List Bool} (h : Wr w D g v L) : w.frozen? ⟨g, 1, none⟩ = false := Mem.frozen_of_row h.block 1
theorem Wr.f0 {w : World} {D g : Nat} {v : Value} {L : List Bool} (h : Wr w D g v L) : w.frozen? ⟨g, 0, none⟩ = false := Mem.frozen_of_row h.block 0

theorem wr_Put_full (w : World) (D g v n : Nat) (x : Value) (L : List Bool) (h64 : n ≤ 64) (hl : L.length ≤ 524288) (hv : v / 2 ^ n = 0) (hf : 524288 < L.length + n) (hw : Wr w D g x L) :
    Calls Try.prog 54 #[.pointer (some ⟨g, 0, none⟩), .int .u64 v, .int .i64 n] w fun e w' => e = .returned (.int .i64 6) ∧ w = w' := by
  have c1 := hw.c1
  obtain ⟨m, hm⟩ : ∃ m, m = L.length := ⟨_, rfl⟩
  rw [← hm] at c1 hl hf
  have e : (v : Int) / 2 ^ n = 0 := by rw [div_cast, hv]; rfl
  clear hv hw hm
  rcases (show n = 64 ∨ n < 64 by omega) with q | q
  · have q2 : ¬ (n : Int) < 64 := by omega
    clear q e
    go_enter Try.func54, Try.ntmps54
    go_wp2
    go_ret
    exact ⟨rfl, rfl⟩
  · go_enter Try.func54, Try.ntmps54
    go_wp2
    go_ret
    exact ⟨rfl, rfl⟩

set_option maxHeartbeats 16000000 in
set_option maxRecDepth 100000 in
theorem wr_Put_ok (w : World) (D g v n : Nat) (x : Value) (L : List Bool) (h64 : n ≤ 64) (hlt : v < 18446744073709551616) (hv : v / 2 ^ n = 0) (hf : L.length + n ≤ 524288) (hD : D ≤ w.heap.size) (hw : Wr w D g x L) :
    Calls Try.prog 54 #[.pointer (some ⟨g, 0, none⟩), .int .u64 v, .int .i64 n] w (PutPost w D g x (0, L ++ bitsN v n)) := by
  have c1 := hw.c1
  have HW := Lib.hid hw
  obtain ⟨m, hm⟩ : ∃ m, m = L.length := ⟨_, rfl⟩
  rw [← hm] at c1 hf
  have HM := Lib.hid hm
  have e : (v : Int) / 2 ^ n = 0 := by rw [div_cast, hv]; rfl
  have hcase : ¬ (n : Int) < 64 ∨ (n : Int) < 64 := by omega
  clear hv hw hm
  rcases hcase with q | q
  all_goals
    go_enter Try.func54, Try.ntmps54
    go_wp2_with fail
    clear c1 e
    go_loopg [7, 32] n (fun gk _ vi wx => ∃ (k : Nat) (y : Value), k ≤ n ∧ gk = n - k ∧ vi = .int .i64 k ∧ Wr wx D g y (L ++ bitsN v k) ∧ Gr2 w wx (some g) x.ownBlock ∧ (∀ b, y.ownBlock = some b → x.ownBlock = some b ∨ w.heap.size ≤ b))
    case atStart => exact ⟨0, x, by omega, rfl, rfl, by have := HW.out; simpa [bitsN] using this, Gr2.refl _ _ _, fun b hb => .inl hb⟩
    case round =>
      obtain ⟨k, y, kn, g2, rfl, hwr, hgr, hyb⟩ := hrel
      have G2 := Lib.hid g2
      have HWR := Lib.hid hwr
      have HGR := Lib.hid hgr
      have HYB := Lib.hid hyb
      obtain ⟨L1, hL1⟩ : ∃ L1, L1 = L ++ bitsN v k := ⟨_, rfl⟩
      rw [← hL1] at HWR
      have hm1 : L1.length = m + k := by rw [hL1, List.length_append, bitsN_length, ← HM.out]
      have HL1 := Lib.hid hL1
      clear g2 hwr hgr hyb hL1
      by_cases hkn : k < n
      · obtain ⟨M, hM⟩ : ∃ M, M = L1.length := ⟨_, rfl⟩
        have hMb : M < 524288 := by omega
        have c0 := HWR.out.c0
        have c1 := HWR.out.c1
        rw [← hM] at c1
        have hown := HWR.out.own
        rw [← hM] at hown
        have HM1 := Lib.hid hM
        obtain ⟨q8, hq8⟩ : ∃ q8, q8 = M / 8 := ⟨_, rfl⟩
        obtain ⟨r, hr⟩ : ∃ r, r = M % 8 := ⟨_, rfl⟩
        have HQR := Lib.hid (show M = 8 * q8 + r by omega)
        have hr8 : r < 8 := by omega
        have hq9 : q8 ≤ 65536 := by omega
        have hDw : D ≤ wr.heap.size := Nat.le_trans hD HGR.out.size
        have p2 : (M : Int) % 8 = r := by omega
        by_cases hr0 : r = 0
        · obtain ⟨ya, yc, hy, _, _⟩ := own_slice hown
          have e1 : (M + 7) / 8 = q8 := by omega
          rw [e1] at hown hy
          subst hy
          have HOWN := Lib.hid hown
          have f0 := HWR.out.f0
          have p3 : ((r : Int) == 0) = true := by simp; omega
          have HR0 := Lib.hid hr0
          clear hown hM hq8 hr hm1 hr0 e1
          go_wp2_with (at_builtin; go_must (refine wpList_append_new rfl _ _ 35 rfl D 5 (.int .u8 0) 1 1 Try.underlying35 (by kernel_rfl) rfl (by decide) _ _ _ rfl HOWN.out _ _ rfl rfl rfl (by omega) (by decide) hDw ?_))
          intro gg cap1 w1 hown1 hg hor hlt'
          have hne1 := own_ne HOWN.out HWR.out.block (by decide)
          have hb1 := heap_gb HWR.out.block hg (fun e => hne1 _ e.symm rfl)
          rw [← HM1.out] at hb1
          have k0 : w1.cell? ⟨g, 0, none⟩ = some (.slice ya q8 yc) := by rw [cell_of_row w1 g 0 _ _ _ hb1]; rfl
          have k1 : w1.frozen? ⟨g, 0, none⟩ = false := Mem.frozen_of_row hb1 0
          have hown1' : w1.ownsRow D 5 1 (.slice (some ⟨gg, 0, none⟩) (q8 + 1) cap1) (q8 + 1) (vints .u8 (packN (q8 + 1) L1)) := by
            rw [packN_succ q8 L1 (by have := HQR.out; have := HM1.out; have := HR0.out; omega)]
            have e2 : packB L1 = packN q8 L1 := by unfold packB; rw [← HM1.out, show (M + 7) / 8 = q8 by have := HQR.out; have := HR0.out; omega]
            rw [e2] at hown1
            simpa [vints] using hown1
          have hgn : Gr2 w w1 (some g) x.ownBlock := HGR.out.step (Gr2.of2 hg) (fun b hb => HYB.out b hb)
          have hyn : x.ownBlock = some gg ∨ w.heap.size ≤ gg := by
            rcases hor with h | h
            · exact HYB.out gg h
            · have := HGR.out.size; right; omega
          have HB1 := Lib.hid hb1
          have HO1 := Lib.hid hown1'
          have HGN := Lib.hid hgn
          have HYN := Lib.hid hyn
          clear hb1 hown1' hgn hyn hown1 hg hor hne1 c0 c1 f0
          go_wp2_with fail
          clear k0 k1
          have hblk : (w1.setCell ⟨g, 0, none⟩ (.slice (some ⟨gg, 0, none⟩) (q8 + 1) cap1)).heap[g]? = some (.cells #[.slice (some ⟨gg, 0, none⟩) (q8 + 1) cap1, .int .i64 M] 82 (0, 0)) := heap_set HB1.out 0 _
          have hown2 := own_set HO1.out (own_ne HO1.out HB1.out (by decide)) 0 (.slice (some ⟨gg, 0, none⟩) (q8 + 1) cap1)
          have hgr2 := HGN.out.step (s2 := none) (Gr2.of1 (gb_set (gb_refl w1 (some g)) 0 (.slice (some ⟨gg, 0, none⟩) (q8 + 1) cap1))) (fun b hb => by cases hb)
          have hyb2 := HYN.out
          generalize w1.setCell ⟨g, 0, none⟩ (.slice (some ⟨gg, 0, none⟩) (q8 + 1) cap1) = W2 at *
          clear HB1 HO1 HGN HYN HOWN HWR
          refine wp_region_still_tail 24 (by kernel_rfl) (by kernel_rfl) ?_
          simp only [List.take_succ_cons, List.take_zero, List.drop_succ_cons, List.drop_zero]
          change wpStill _ _ W2.drew (fun a' => wpList _ _ _ _ a' W2.drew) _ _
          replace hblk : W2.drew.heap[g]? = some (.cells #[.slice (some ⟨gg, 0, none⟩) (q8 + 1) cap1, .int .i64 M] 82 (0, 0)) := hblk
          replace hown2 := own_keep (w2 := W2.drew) hown2 (fun _ _ => rfl)
          replace hgr2 := hgr2.drew
          generalize W2.drew = W3 at *
          obtain ⟨z, hzv⟩ : ∃ z, z = bval (seg L1 (8 * q8) 8) := ⟨_, rfl⟩
          have lz : z < 2 ^ r := by rw [hzv]; exact seg_lt_pow L1 q8 r (by rw [← HM1.out]; exact HQR.out)
          have cC : W3.cell? ⟨gg, q8, none⟩ = some (.int .u8 z) := (hown2.cellAt q8 (by omega)).trans (by
            rw [vints_get _ _ _ (by rw [packN_length]; omega), packN_get _ _ _ (by omega), hzv])
          have fC : W3.frozen? ⟨gg, q8, none⟩ = false := hown2.frozenAt q8
          have cA : W3.cell? ⟨g, 0, none⟩ = some (.slice (some ⟨gg, 0, none⟩) (q8 + 1) cap1) := by rw [cell_of_row W3 g 0 _ _ _ hblk]; rfl
          have cB : W3.cell? ⟨g, 1, none⟩ = some (.int .i64 M) := by rw [cell_of_row W3 g 1 _ _ _ hblk]; rfl
          have fB : W3.frozen? ⟨g, 1, none⟩ = false := Mem.frozen_of_row hblk 1
          have hne := own_ne hown2 hblk (by decide)
          have hgne : ¬ g = gg := fun h => hne gg rfl (by rw [h])
          have hgne2 : ¬ gg = g := fun h => hgne h.symm
          obtain ⟨bt, sh, Z, ha1, ha2, ha3, ha4, hZ⟩ := put_parts z v k r lz hr8 hlt
          have HZ := Lib.hid hZ
          have HBLK := Lib.hid hblk
          have HOWN2 := Lib.hid hown2
          have HGR2 := Lib.hid hgr2
          have HYB2 := Lib.hid hyb2
          have HZV := Lib.hid hzv
          have q1 : IntKind.i64.wrap ((M : Int) / 8) = q8 := by have := HQR.out; rw [IntKind.wrap_i64]; omega
          have q4 : (M : Int).tmod 8 = r := by rw [Int.tmod_eq_emod_of_nonneg (by omega)]; have := HQR.out; omega
          have q5 : (0 : Int) ≤ r := by omega
          have q6 : (r : Int) < 8 := by omega
          have q2 : (0 : Int) ≤ q8 := by omega
          have q3 : (q8 : Int) < (q8 : Int) + 1 := by omega
          clear hblk hown2 hgr2 hyb2 hzv hne hZ
          repeat still_step
          refine wpStill_nil ?_
          go_wp2
          go_roundg (n - (k + 1))
          case measure => rw [G2.out]; omega
          case rel =>
            have hL2 : L ++ bitsN v (k + 1) = L1 ++ [v.testBit k] := by rw [bitsN_succ, ← List.append_assoc, ← HL1.out]
            have hlen : (L1 ++ [v.testBit k]).length = M + 1 := by rw [List.length_append, List.length_singleton, ← HM1.out]
            have hq : (M + 1 + 7) / 8 = q8 + 1 := by have := HQR.out; omega
            have hset := packN_set (q8 + 1) L1 (v.testBit k) q8 r (by rw [← HM1.out]; exact HQR.out) hr8
            rw [← HZV.out, ← HZ.out] at hset
            have ho := (HOWN2.out.stored q8 (.int .u8 Z)).1
            rw [vints_set, ← hset] at ho
            have hb := heap_set (heap_far HBLK.out (p := ⟨gg, q8, none⟩) hgne (.int .u8 Z)) 1 (.int .i64 ((M : Int) + 1))
            refine ⟨k + 1, .slice (some ⟨gg, 0, none⟩) (q8 + 1) cap1, by omega, rfl, by go_num, ⟨?_, ?_, HW.out.dg⟩, ?_, ?_⟩
            · rw [hL2, hlen]; exact hb
            · rw [hL2]
              unfold packB
              rw [hlen, hq]
              exact own_set ho (fun b hb h => hgne2 (by injection h with h; rw [← h]; injection hb)) 1 _
            · exact (HGR2.out.step (s2 := some gg) (Gr2.of2 (gb_set (gb_refl W3 (some gg)) q8 (.int .u8 Z))) (fun b hb => by injection hb with hb; rw [← hb]; exact HYB2.out)).step (s2 := none) (Gr2.of1 (gb_set (gb_refl _ (some g)) 1 _)) (fun b hb => by cases hb)
            · intro b hb; injection hb with hb; rw [← hb]; exact HYB2.out
        · obtain ⟨gg, cap1, rfl, _, hlt'⟩ := hown.form (by omega)
          have e1 : (M + 7) / 8 = q8 + 1 := by omega
          rw [e1] at hown c0 HYB HWR
          have p3 : ((r : Int) == 0) = false := by rw [beq_eq_false_iff_ne]; omega
          have hblk := HWR.out.block
          rw [← HM1.out] at hblk
          have hown2 : wr.ownsRow D 5 1 (.slice (some ⟨gg, 0, none⟩) (q8 + 1) cap1) (q8 + 1) (vints .u8 (packN (q8 + 1) L1)) := by
            have e2 : packB L1 = packN (q8 + 1) L1 := by unfold packB; rw [← HM1.out, e1]
            rw [e2] at hown; exact hown
          have hgr2 := HGR.out
          have hyb2 := HYB.out gg rfl
          clear hown hM hq8 hr hm1 hr0 e1
          go_wp2_with fail
          clear c0 c1 HWR
          refine wp_region_still_tail 24 (by kernel_rfl) (by kernel_rfl) ?_
          simp only [List.take_succ_cons, List.take_zero, List.drop_succ_cons, List.drop_zero]
          change wpStill _ _ wr.drew (fun a' => wpList _ _ _ _ a' wr.drew) _ _
          replace hblk : wr.drew.heap[g]? = some (.cells #[.slice (some ⟨gg, 0, none⟩) (q8 + 1) cap1, .int .i64 M] 82 (0, 0)) := hblk
          replace hown2 := own_keep (w2 := wr.drew) hown2 (fun _ _ => rfl)
          replace hgr2 := hgr2.drew
          generalize wr.drew = W3 at *
          obtain ⟨z, hzv⟩ : ∃ z, z = bval (seg L1 (8 * q8) 8) := ⟨_, rfl⟩
          have lz : z < 2 ^ r := by rw [hzv]; exact seg_lt_pow L1 q8 r (by rw [← HM1.out]; exact HQR.out)
          have cC : W3.cell? ⟨gg, q8, none⟩ = some (.int .u8 z) := (hown2.cellAt q8 (by omega)).trans (by
            rw [vints_get _ _ _ (by rw [packN_length]; omega), packN_get _ _ _ (by omega), hzv])
          have fC : W3.frozen? ⟨gg, q8, none⟩ = false := hown2.frozenAt q8
          have cA : W3.cell? ⟨g, 0, none⟩ = some (.slice (some ⟨gg, 0, none⟩) (q8 + 1) cap1) := by rw [cell_of_row W3 g 0 _ _ _ hblk]; rfl
          have cB : W3.cell? ⟨g, 1, none⟩ = some (.int .i64 M) := by rw [cell_of_row W3 g 1 _ _ _ hblk]; rfl
          have fB : W3.frozen? ⟨g, 1, none⟩ = false := Mem.frozen_of_row hblk 1
          have hne := own_ne hown2 hblk (by decide)
          have hgne : ¬ g = gg := fun h => hne gg rfl (by rw [h])
          have hgne2 : ¬ gg = g := fun h => hgne h.symm
          obtain ⟨bt, sh, Z, ha1, ha2, ha3, ha4, hZ⟩ := put_parts z v k r lz hr8 hlt
          have HZ := Lib.hid hZ
          have HBLK := Lib.hid hblk
          have HOWN2 := Lib.hid hown2
          have HGR2 := Lib.hid hgr2
          have HYB2 := Lib.hid hyb2
          have HZV := Lib.hid hzv
          have q1 : IntKind.i64.wrap ((M : Int) / 8) = q8 := by have := HQR.out; rw [IntKind.wrap_i64]; omega
          have q4 : (M : Int).tmod 8 = r := by rw [Int.tmod_eq_emod_of_nonneg (by omega)]; have := HQR.out; omega
          have q5 : (0 : Int) ≤ r := by omega
          have q6 : (r : Int) < 8 := by omega
          have q2 : (0 : Int) ≤ q8 := by omega
          have q3 : (q8 : Int) < (q8 : Int) + 1 := by omega
          clear hblk hown2 hgr2 hyb2 hzv hne hZ
          repeat still_step
          refine wpStill_nil ?_
          go_wp2
          go_roundg (n - (k + 1))
          case measure => rw [G2.out]; omega
          case rel =>
            have hL2 : L ++ bitsN v (k + 1) = L1 ++ [v.testBit k] := by rw [bitsN_succ, ← List.append_assoc, ← HL1.out]
            have hlen : (L1 ++ [v.testBit k]).length = M + 1 := by rw [List.length_append, List.length_singleton, ← HM1.out]
            have hq : (M + 1 + 7) / 8 = q8 + 1 := by have := HQR.out; omega
            have hset := packN_set (q8 + 1) L1 (v.testBit k) q8 r (by rw [← HM1.out]; exact HQR.out) hr8
            rw [← HZV.out, ← HZ.out] at hset
            have ho := (HOWN2.out.stored q8 (.int .u8 Z)).1
            rw [vints_set, ← hset] at ho
            have hb := heap_set (heap_far HBLK.out (p := ⟨gg, q8, none⟩) hgne (.int .u8 Z)) 1 (.int .i64 ((M : Int) + 1))
            refine ⟨k + 1, .slice (some ⟨gg, 0, none⟩) (q8 + 1) cap1, by omega, rfl, by go_num, ⟨?_, ?_, HW.out.dg⟩, ?_, ?_⟩
            · rw [hL2, hlen]; exact hb
            · rw [hL2]
              unfold packB
              rw [hlen, hq]
              exact own_set ho (fun b hb h => hgne2 (by injection h with h; rw [← h]; injection hb)) 1 _
            · exact (HGR2.out.step (s2 := some gg) (Gr2.of2 (gb_set (gb_refl W3 (some gg)) q8 (.int .u8 Z))) (fun b hb => by injection hb with hb; rw [← hb]; exact HYB2.out)).step (s2 := none) (Gr2.of1 (gb_set (gb_refl _ (some g)) 1 _)) (fun b hb => by cases hb)
            · intro b hb; injection hb with hb; rw [← hb]; exact HYB2.out
      · have hd : decide (k < n) = false := by simp; omega
        have ek : k = n := by omega
        have HEK := Lib.hid ek
        clear ek
        go_wp2
        go_ret
        exact ⟨rfl, y, by have h := HWR.out; rw [HL1.out, HEK.out] at h; exact h, HGR.out, HYB.out⟩

theorem wr_same {w w' : World} {D g : Nat} {v : Value} {r : Nat × List Bool} {e : Ending} (h : Wr w D g v r.2) (he : e = .returned (.int .i64 r.1)) (hw : w = w') : PutPost w D g v r e w' := by
  subst hw
  exact ⟨he, v, h, Gr2.refl _ _ _, fun b hb => .inl hb⟩
theorem wr_Put (w : World) (D g v : Nat) (n : Int) (x : Value) (L : List Bool) (hlt : v < 18446744073709551616) (hl : L.length ≤ 524288) (hD : D ≤ w.heap.size) (hw : Wr w D g x L) :
    Calls Try.prog 54 #[.pointer (some ⟨g, 0, none⟩), .int .u64 v, .int .i64 n] w (PutPost w D g x (putR L v n)) := by
  unfold putR
  by_cases h : n < 0 ∨ 64 < n ∨ v / 2 ^ n.toNat ≠ 0
  · rw [if_pos h]
    exact (wr_Put_arg w g v n hlt h).mono fun e w' p => wr_same hw p.1 p.2
  · rw [if_neg h]
    obtain ⟨k, rfl⟩ : ∃ k : Nat, n = k := ⟨n.toNat, by omega⟩
    rw [Int.toNat_natCast] at h ⊢
    have h0 : v / 2 ^ k = 0 := by
      rcases Nat.eq_zero_or_pos (v / 2 ^ k) with h1 | h1
      · exact h1
      · exact absurd (.inr (.inr (by omega))) h
    by_cases hf : 524288 < L.length + k
    · rw [if_pos hf]
      exact (wr_Put_full w D g v k x L (by omega) hl h0 hf hw).mono fun e w' p => wr_same hw p.1 p.2
    · rw [if_neg hf]
      exact wr_Put_ok w D g v k x L (by omega) hlt h0 (by omega) hD hw

theorem wr_Len (w : World) (D g : Nat) (x : Value) (L : List Bool) (hw : Wr w D g x L) : Calls Try.prog 60 #[.pointer (some ⟨g, 0, none⟩)] w fun e w' => e = .returned (.int .i64 L.length) ∧ w = w' := by
  have c1 := hw.c1
  obtain ⟨m, hm⟩ : ∃ m, m = L.length := ⟨_, rfl⟩
  rw [← hm] at c1 ⊢
  clear hw hm
  go_enter Try.func60, Try.ntmps60
  go_wp2
  go_ret
  exact ⟨rfl, rfl⟩
def BytesPost (zs : List Int) (w : World) (e : Ending) (w' : World) : Prop := ∃ a c, e = .returned (.slice a zs.length c) ∧ zs.length ≤ c ∧ IntsAt .u8 w' a zs ∧ Below w.heap.size w w'
set_option maxHeartbeats 4000000 in
theorem wr_Bytes (w : World) (D g : Nat) (x : Value) (L : List Bool) (hl : L.length ≤ 524288) (hw : Wr w D g x L) : Calls Try.prog 62 #[.pointer (some ⟨g, 0, none⟩)] w (BytesPost (packB L) w) := by
  have c0 := hw.c0
  have hown := hw.own
  obtain ⟨a, c, rfl, _, _⟩ := own_slice hown
  obtain ⟨n, hn⟩ : ∃ n, n = (L.length + 7) / 8 := ⟨_, rfl⟩
  have hpl : (packB L).length = n := by rw [hn]; exact packN_length _ _
  have hnb : n ≤ 65536 := by omega
  rw [← hn] at c0 hown
  have HI := Lib.hid (IntsAt.of_own hown hpl.symm)
  have HPL := Lib.hid hpl
  have hnil : w.ownsRow w.heap.size 5 1 (.slice none 0 0) 0 (vints .u8 []) := ⟨rfl, .inl ⟨rfl, rfl⟩⟩
  have HNIL := Lib.hid hnil
  clear hw hown hn hpl hl hnil
  go_enter Try.func62, Try.ntmps62
  go_wp2_with (at_builtin; go_must (refine wpList_append_ints rfl _ _ 35 rfl w.heap.size 5 .u8 1 Try.underlying35 (by kernel_rfl) (.slice none 0 0) 0 [] rfl HNIL.out a n c (packB L) rfl HPL.out HI.out (by unfold maxLen; omega) (by omega) (Nat.le_refl _) ?_))
  intro v0 w1 hown hgr hat
  have hb1 : Below w.heap.size w w1 := (Below.refl _ _).grown hgr (Nat.le_refl _) (fun k hk => by cases hk)
  obtain ⟨a1, c1, rfl, hc, _⟩ := own_slice hown
  have HOWN := Lib.hid hown
  clear hgr hat hown
  go_wp2
  go_ret
  refine ⟨a1, c1, by rw [HPL.out]; rfl, by rw [HPL.out]; exact hc, IntsAt.of_own HOWN.out HPL.out.symm, hb1⟩
end Go.Proofs.Ytdhaaeaacbnghaa
