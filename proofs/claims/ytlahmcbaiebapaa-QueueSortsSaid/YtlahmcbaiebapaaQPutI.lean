/- queue.Queue[int]: Put. -/
import Derived.Test.YtlahmcbaiebapaaBeforeI
import Derived.Deep.RegionLaw
import Derived.Deep.LoopGhost
import Derived.Deep.AppendLies
namespace Go.Proofs.Ytlahmcbaiebapaa.Qint
open Go.ChangeShapes Go.WideShapes Go.ChangeAt Go.RowKit Go.Mem Go.Qp
set_option linter.unusedVariables false

set_option maxRecDepth 100000 in
theorem q_Put_full (w : World) (D q n m cap : Nat) (a : Option Addr) (z : Int) (r : Int) (H : List QItem) (hm : 4096 ≤ m) (hw : w.cell? ⟨q, 0, none⟩ = some (.slice a m cap)) :
    Calls Try.prog 95 #[.pointer (some ⟨q, 0, none⟩), .int .i64 z, .int .i64 r] w fun e w' => e = .returned (.int .i64 6) ∧ w = w' := by
  go_enter Try.func95, Try.ntmps95
  go_wp2
  go_ret
  exact ⟨rfl, rfl⟩

def PutQ (w : World) (D q n : Nat) (v : Value) (H : List QItem) (x : QItem) (e : Ending) (w' : World) : Prop :=
  e = .returned (.int .i64 0) ∧ ∃ v' H2, QU w' D q v' H2 (n + 1) ∧ H2.Perm (H ++ [x]) ∧ isHeap dI H2 ∧ Gr2 w w' (some q) v.ownBlock ∧ (∀ b, v'.ownBlock = some b → v.ownBlock = some b ∨ w.heap.size ≤ b)
set_option maxHeartbeats 16000000 in
set_option maxRecDepth 100000 in
theorem q_Put (w : World) (D q n : Nat) (v : Value) (z : Int) (r : Int) (H : List QItem) (hl : H.length < 4096) (hn : n < 4611686018427387904) (hD : D ≤ w.heap.size) (hw : QU w D q v H n) (hh : isHeap dI H) :
    Calls Try.prog 95 #[.pointer (some ⟨q, 0, none⟩), .int .i64 z, .int .i64 r] w (PutQ w D q n v H ⟨.int .i64 z, r, n⟩) := by
  have HW := Lib.hid hw
  have HH := Lib.hid hh
  obtain ⟨m, hm⟩ : ∃ m, m = H.length := ⟨_, rfl⟩
  obtain ⟨a, cap, hv⟩ : ∃ a cap, v = .slice a H.length cap := by
    rcases hw.own.2 with ⟨h1, h2⟩ | ⟨gg, cap, cur, h1, _⟩
    · exact ⟨none, 0, by rw [h1, h2]⟩
    · exact ⟨_, cap, h1⟩
  have c0 := hw.c0
  have c1 := hw.c1
  have f0 := hw.f0
  have hown := hw.own
  rw [hv] at c0 hown
  rw [← hm] at c0 hl hown
  have HOWN := Lib.hid hown
  have HV := Lib.hid hv
  have hblk := hw.block
  rw [hv, ← hm] at hblk
  have HBLK := Lib.hid hblk
  have HM := Lib.hid hm
  have lt0 := World.block_lt_of_cell? _ _ c0
  clear hw hh hm hv hown hblk
  obtain ⟨i0, hi0, hz0, hz1, hz2⟩ := info_parts (show (Try.prog.info? 186).map (fun i => (i.zero, i.size, i.bytes)) = some (some (.agg #[.int .i64 0, .int .i64 0, .int .i64 0]), 3, 24) by kernel_rfl)
  go_enter Try.func95, Try.ntmps95
  go_wp2_with fail
  go_region_law ((refine step_append_lies _ (by rfl) _ _ _ (by rfl) D 186 i0 _ 3 24 Try.underlying147 hi0 hz0 hz1 hz2 rfl (by omega) (.slice a m cap) m (cellsQ H) (by rfl) ((HOWN.out.alloc _).drew) ⟨w.heap.size, 0, none⟩ 1 1 [.int .i64 z, .int .i64 r, .int .i64 n] (by rfl) (by rfl) (World.news_of_block (cs := #[.int .i64 z, .int .i64 r, .int .i64 n]) (t := 186) (fr := (0, 0)) (heap_alloc_new w _)) (by simp [Value.oneCell']) (by omega) (by unfold maxLen; omega) (by omega) (by simp; omega) (w.heap.size + 1) (by simp) ?_; intro gg cap1 w1 hown1 hgrow hat hlt; have hb1 := heap_gb (show (w.alloc (.cells #[.int .i64 z, .int .i64 r, .int .i64 n] 186)).drew.heap[q]? = _ from heap_keep HBLK.out _) hgrow (fun e => own_ne HOWN.out HBLK.out (by decide) _ e.symm rfl); have k0 : w1.cell? ⟨q, 0, none⟩ = some (.slice a m cap) := (by rw [cell_of_row w1 q 0 _ _ _ hb1]; rfl); have k1 : w1.frozen? ⟨q, 0, none⟩ = false := Mem.frozen_of_row hb1 0))
  all_goals
    have hbw : Gr2 w w1 (some q) v.ownBlock := by
      rw [HV.out, ← HM.out]
      exact (gr_of_below ((Below.refl w.heap.size w).alloc (Nat.le_refl _) (.cells #[.int .i64 z, .int .i64 r, .int .i64 n] 186)).drew).step (Gr2.of2 hgrow) (fun b hb => .inl hb)
    have hvb : v.ownBlock = some gg ∨ w.heap.size ≤ gg := by
      rw [HV.out, ← HM.out]
      exact hat.imp id (fun h => by omega)
    have HB1 := Lib.hid hb1
    have HO1 := Lib.hid hown1
    have HG1 := Lib.hid hgrow
    have HAT := Lib.hid hat
    have k3 : (w1.setCell ⟨q, 0, none⟩ (.slice (some ⟨gg, 0, none⟩) (m + 1) cap1)).cell? ⟨q, 1, none⟩ = some (.int .i64 n) := by rw [cell_of_row _ q 1 _ _ _ (heap_set hb1 0 _)]; rfl
    have k4 : (w1.setCell ⟨q, 0, none⟩ (.slice (some ⟨gg, 0, none⟩) (m + 1) cap1)).frozen? ⟨q, 1, none⟩ = false := Mem.frozen_of_row (heap_set hb1 0 _) 1
    clear hb1 hown1 hgrow hat k0 k1 c0 c1 f0
    generalize hW2 : w1.setCell ⟨q, 0, none⟩ (.slice (some ⟨gg, 0, none⟩) (m + 1) cap1) = W2 at *
    have k5 : (W2.setCell ⟨q, 1, none⟩ (.int .i64 ((n : Int) + 1))).cell? ⟨q, 0, none⟩ = some (.slice (some ⟨gg, 0, none⟩) (m + 1) cap1) := by
      rw [← hW2, cell_of_row _ q 0 _ _ _ (heap_set (heap_set HB1.out 0 _) 1 _)]; rfl
    have HW2 := Lib.hid hW2
    clear hW2
    have hq0 : QU (W2.setCell ⟨q, 1, none⟩ (.int .i64 ((n : Int) + 1))) D q (.slice (some ⟨gg, 0, none⟩) (m + 1) cap1) (H ++ [⟨.int .i64 z, r, n⟩]) (n + 1) := by
      have e1 : cellsQ (H ++ [(⟨.int .i64 z, r, n⟩ : QItem)]) = cellsQ H ++ [.int .i64 z, .int .i64 r, .int .i64 n] := by rw [cellsQ_append]; rfl
      have e2 : (H ++ [(⟨.int .i64 z, r, n⟩ : QItem)]).length = m + 1 := by rw [List.length_append, ← HM.out]; rfl
      have hne := own_ne HO1.out HB1.out (by decide)
      refine ⟨?_, ?_, HW.out.dq, fun y hy => ?_⟩
      · rw [← HW2.out]; exact heap_set (heap_set HB1.out 0 _) 1 _
      · rw [e1, e2, ← HW2.out]
        exact own_set (own_set HO1.out hne 0 _) hne 1 _
      · rcases List.mem_append.1 hy with hy | hy
        · exact HW.out.vals y hy
        · have : y = ⟨.int .i64 z, r, n⟩ := by simpa using hy
          rw [this]; exact ⟨z, rfl⟩
    have hup := up_start dI H ⟨.int .i64 z, r, n⟩ HH.out
    rw [← HM.out] at hup
    have HQ0 := Lib.hid hq0
    have HUP := Lib.hid hup
    obtain ⟨HF, hHF⟩ : ∃ HF, HF = H ++ [(⟨.int .i64 z, r, n⟩ : QItem)] := ⟨_, rfl⟩
    rw [← hHF] at HQ0 HUP
    have HHF := Lib.hid hHF
    have hFl : HF.length = m + 1 := by rw [hHF, List.length_append, ← HM.out]; rfl
    have HFL := Lib.hid hFl
    have hgD : D ≤ gg := (own_lt HO1.out gg rfl).1
    have hbw2 : Gr2 w (W2.setCell ⟨q, 1, none⟩ (.int .i64 ((n : Int) + 1))) (some q) v.ownBlock := by
      rw [← HW2.out]; exact hbw.step (s2 := none) (Gr2.of1 (gb_set (gb_set (gb_refl _ (some q)) 0 _) 1 _)) (fun b hb => by cases hb)
    clear hq0 hup hHF hFl HB1 HO1 HG1 hbw
    go_wp2
    clear k3 k4 k5
    go_loopg [7, 43] m (fun gk vi _ wx => ∃ (i : Nat) (Hx : List QItem), i ≤ m ∧ gk = i ∧ vi = .int .i64 i ∧ QU wx D q (.slice (some ⟨gg, 0, none⟩) (m + 1) cap1) Hx (n + 1) ∧ Hx.length = m + 1 ∧ Hx.Perm HF ∧ upOk dI Hx i ∧ Gr2 w wx (some q) v.ownBlock)
    case atStart => exact ⟨m, HF, Nat.le_refl _, rfl, rfl, HQ0.out, HFL.out, List.Perm.refl _, HUP.out, hbw2⟩
    case round =>
      obtain ⟨i, Hx, im, g2, rfl, hq, hxl, hxp, hxu, hgr⟩ := hrel
      have G2 := Lib.hid g2
      have HQ := Lib.hid hq
      have HXL := Lib.hid hxl
      have HXP := Lib.hid hxp
      have HXU := Lib.hid hxu
      clear g2 hq hxl hxp hxu HQ0 HUP hbw2
      by_cases h0 : i = 0
      · have HH2 := Lib.hid (up_stop dI Hx i HXU.out (.inl h0))
        have h0' : ¬ (0 : Int) < (i : Int) := by omega
        clear h0
        go_wp2
        go_ret
        exact ⟨rfl, _, Hx, HQ.out, by rw [← HHF.out]; exact HXP.out, HH2.out, hgr, fun b hb => by injection hb with hb; rw [← hb]; exact hvb⟩
      · have hp := par_lt (i := i) (by omega)
        obtain ⟨p, hpe⟩ : ∃ p, p = par i := ⟨_, rfl⟩
        rw [← hpe] at hp
        have hpi : ((i : Int) - 1) / 2 = p := by rw [hpe]; unfold par; omega
        have cb := q_before wr D q (n + 1) i p _ Hx (by rw [HXL.out]; omega) (by rw [HXL.out]; omega) (by rw [HXL.out]; omega) HQ.out
        obtain ⟨bb, hbb⟩ : ∃ bb, bb = bef (g dI Hx i) (g dI Hx p) := ⟨_, rfl⟩
        rw [← hbb] at cb
        have CB := Lib.hid cb
        have HBB := Lib.hid hbb
        have HPE := Lib.hid hpe
        have h0' : (0 : Int) < (i : Int) := by omega
        clear h0 cb hbb hpe
        cases bb with
        | false =>
          have HH2 := Lib.hid (up_stop dI Hx i HXU.out (.inr (by rw [← HPE.out]; exact HBB.out.symm)))
          go_wp2_with fail
          refine CB.out.mono ?_
          rintro e w5 ⟨rfl, hb5⟩
          have HQ5 := Lib.hid (HQ.out.below hb5)
          have hg5 := hgr.step (s2 := none) (gr_of_below hb5) (fun b hb => by cases hb)
          clear hb5
          go_wp2
          go_ret
          exact ⟨rfl, _, Hx, HQ5.out, by rw [← HHF.out]; exact HXP.out, HH2.out, hg5, fun b hb => by injection hb with hb; rw [← hb]; exact hvb⟩
        | true =>
          go_wp2_with fail
          refine CB.out.mono ?_
          rintro e w5 ⟨rfl, hb5⟩
          have HQ5 := Lib.hid (HQ.out.below hb5)
          have hg5 := hgr.step (s2 := none) (gr_of_below hb5) (fun b hb => by cases hb)
          clear hb5
          have c0 := HQ5.out.c0
          obtain ⟨a0, a1, a2⟩ := HQ5.out.at i (by rw [HXL.out]; omega)
          obtain ⟨b0, b1, b2⟩ := HQ5.out.at p (by rw [HXL.out]; omega)
          obtain ⟨xz, hxz⟩ := HQ5.out.vals _ (g_mem dI Hx i (by rw [HXL.out]; omega))
          obtain ⟨yz, hyz⟩ := HQ5.out.vals _ (g_mem dI Hx p (by rw [HXL.out]; omega))
          rw [hxz] at a0
          rw [hyz] at b0
          obtain ⟨xr, hxr⟩ : ∃ xr, xr = (g dI Hx i).r := ⟨_, rfl⟩
          obtain ⟨xc, hxc⟩ : ∃ xc, xc = (g dI Hx i).c := ⟨_, rfl⟩
          obtain ⟨yr, hyr⟩ : ∃ yr, yr = (g dI Hx p).r := ⟨_, rfl⟩
          obtain ⟨yc, hyc⟩ : ∃ yc, yc = (g dI Hx p).c := ⟨_, rfl⟩
          rw [← hxr] at a1
          rw [← hxc] at a2
          rw [← hyr] at b1
          rw [← hyc] at b2
          have ex : g dI Hx i = ⟨.int .i64 xz, xr, xc⟩ := by rw [hxr, hxc, ← hxz]
          have ey : g dI Hx p = ⟨.int .i64 yz, yr, yc⟩ := by rw [hyr, hyc, ← hyz]
          have EX := Lib.hid ex
          have EY := Lib.hid ey
          have ho := HQ5.out.own
          rw [HXL.out] at ho
          have fr := fun j => ho.frozenAt j
          have fi0 := fr (i * 3)
          have fi1 := fr (i * 3 + 1)
          have fi2 := fr (i * 3 + 2)
          have fp0 := fr (p * 3)
          have fp1 := fr (p * 3 + 1)
          have fp2 := fr (p * 3 + 2)
          have i1 : (0 : Int) ≤ (i : Int) := by omega
          have i2 : (i : Int) < (m : Int) + 1 := by omega
          have i3 : (0 : Int) ≤ (p : Int) := by omega
          have i4 : (p : Int) < (m : Int) + 1 := by omega
          clear hxz hyz hxr hxc hyr hyc ex ey fr ho
          go_wp2_with fail
          go_region
          go_wp2
          go_roundg p
          case measure => rw [G2.out]; exact hp
          case rel =>
            have hsw : swap dI Hx i p = (Hx.set i ⟨.int .i64 yz, yr, yc⟩).set p ⟨.int .i64 xz, xr, xc⟩ := by unfold swap; rw [EX.out, EY.out]
            have q1 := HQ5.out.put3 (by decide) HXL.out.symm i (by rw [HXL.out]; omega) ⟨.int .i64 yz, yr, yc⟩ ⟨yz, rfl⟩
            have q2 := q1.put3 (by decide) (by rw [List.length_set]; exact HXL.out.symm) p (by rw [List.length_set, HXL.out]; omega) ⟨.int .i64 xz, xr, xc⟩ ⟨xz, rfl⟩
            rw [← hsw] at q2
            refine ⟨p, swap dI Hx i p, by omega, rfl, congrArg (Value.int .i64) hpi, q2.drew, by rw [swap_length]; exact HXL.out, (swap_perm dI Hx i p (by rw [HXL.out]; omega) (by rw [HXL.out]; omega)).trans HXP.out, ?_, ?_⟩
            · have := up_step dI Hx i HXU.out (by omega) (by rw [HXL.out]; omega) (by rw [← HPE.out]; exact HBB.out.symm)
              rw [← HPE.out] at this; exact this
            · exact (hg5.step (s2 := some gg) (Gr2.of2 (gb_set (gb_set (gb_set (gb_set (gb_set (gb_set (gb_refl w5 (some gg)) _ _) _ _) _ _) _ _) _ _) _ _)) (fun b hb => by injection hb with hb; rw [← hb]; exact hvb)).drew
end Go.Proofs.Ytlahmcbaiebapaa.Qint
