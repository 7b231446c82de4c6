/- queue.Queue[int]: Len, First, Take. -/
import Derived.Test.YtlahmcbaiebapaaQReadI
import Derived.BigQuiet
import Derived.Deep.QuietTactic
import Derived.Deep.LoopGhost
namespace Go.Proofs.Ytlahmcbaiebapaa.Qint
open Go.ChangeShapes Go.WideShapes Go.ChangeAt Go.RowKit Go.Mem Go.Qp
set_option linter.unusedVariables false

theorem q_Take_none (w : World) (D q n : Nat) (v : Value) (hw : QU w D q v [] n) : Calls Try.prog 97 #[.pointer (some ⟨q, 0, none⟩)] w fun e w' => e = .returned (.tuple #[.int .i64 0, .int .i64 0, .int .i64 4]) ∧ w = w' := by
  obtain ⟨a, cap, rfl⟩ := slice_of hw
  have c0 := hw.c0
  replace c0 : w.cell? ⟨q, 0, none⟩ = some (.slice a 0 cap) := c0
  clear hw
  go_enter Try.func97, Try.ntmps97
  go_wp2
  go_ret3
  exact ⟨rfl, rfl⟩

theorem heap_far6 {w : World} {x g : Nat} {o : Obj} (h : w.heap[x]? = some o) (hne : x ≠ g) (i1 i2 i3 i4 i5 i6 : Nat) (v1 v2 v3 v4 v5 v6 : Value) : ((((((w.setCell ⟨g, i1, none⟩ v1).setCell ⟨g, i2, none⟩ v2).setCell ⟨g, i3, none⟩ v3).setCell ⟨g, i4, none⟩ v4).setCell ⟨g, i5, none⟩ v5).setCell ⟨g, i6, none⟩ v6).heap[x]? = some o :=
  heap_far (heap_far (heap_far (heap_far (heap_far (heap_far h hne _) hne _) hne _) hne _) hne _) hne _
def TakeQ (w : World) (D q n : Nat) (v : Value) (H : List QItem) (e : Ending) (w' : World) : Prop :=
  e = .returned (.tuple #[(g dI H 0).v, .int .i64 (g dI H 0).r, .int .i64 0]) ∧ ∃ v' H2, QU w' D q v' H2 n ∧ H2.Perm (cutH dI H) ∧ isHeap dI H2 ∧ Gr2 w w' (some q) v.ownBlock ∧ (∀ b, v'.ownBlock = some b → v.ownBlock = some b ∨ w.heap.size ≤ b)
theorem cut_take (H : List QItem) (x : QItem) (h : 0 < H.length) : ((H.set 0 (g dI H (H.length - 1))).set (H.length - 1) x).take (H.length - 1) = cutH dI H := by
  unfold cutH
  rw [List.take_set_of_le (Nat.le_refl _)]
/-- The queue's slice cut shorter. -/
theorem q_cut {w : World} {D q n gg cap m k : Nat} {H : List QItem} (h : QU w D q (.slice (some ⟨gg, 0, none⟩) m cap) H n) (hm : m = H.length) (hk : k ≤ m) (h0 : 0 < m) : QU (w.setCell ⟨q, 0, none⟩ (.slice (some ⟨gg, 0, none⟩) k cap)) D q (.slice (some ⟨gg, 0, none⟩) k cap) (H.take k) n := by
  subst hm
  have hne := own_ne h.own h.block (by decide)
  have h1 := own_take h.own hk h0
  rw [cellsQ_take H k hk] at h1
  refine ⟨heap_set h.block 0 _, ?_, h.dq, fun y hy => h.vals y (List.mem_of_mem_take hy)⟩
  rw [List.length_take, Nat.min_eq_left hk]
  exact own_set h1 hne 0 _
theorem take_end {w w' : World} {D q n gg cap k : Nat} {H Hx HF : List QItem} {xv : Value} {xr xc : Int} {m cap0 : Nat} (hx : g dI H 0 = ⟨xv, xr, xc⟩) (hf : HF = cutH dI H) (hp : Hx.Perm HF) (hh : isHeap dI Hx) (hq : QU w' D q (.slice (some ⟨gg, 0, none⟩) k cap) Hx n) (hg : Gr2 w w' (some q) (some gg)) :
    TakeQ w D q n (.slice (some ⟨gg, 0, none⟩) m cap0) H (.returned (.tuple #[xv, .int .i64 xr, .int .i64 0])) w' := by
  refine ⟨by rw [hx], _, Hx, hq, by rw [← hf]; exact hp, hh, hg, fun b hb => .inl hb⟩
set_option maxHeartbeats 16000000 in
set_option maxRecDepth 100000 in
theorem q_Take (w : World) (D q n : Nat) (v : Value) (H : List QItem) (hl : H.length ≤ 4096) (h0 : 0 < H.length) (hw : QU w D q v H n) (hh : isHeap dI H) :
    Calls Try.prog 97 #[.pointer (some ⟨q, 0, none⟩)] w (TakeQ w D q n v H) := by
  have HW := Lib.hid hw
  have HH := Lib.hid hh
  obtain ⟨gg, cap, rfl, hDg, ltg⟩ := hw.own.form h0
  have c0 := hw.c0
  obtain ⟨a0, a1, a2⟩ := hw.at 0 h0
  obtain ⟨b0, b1, b2⟩ := hw.at (H.length - 1) (by omega)
  obtain ⟨xz, hxz⟩ := hw.vals _ (g_mem dI H 0 h0)
  obtain ⟨yz, hyz⟩ := hw.vals _ (g_mem dI H (H.length - 1) (by omega))
  rw [hxz] at a0
  rw [hyz] at b0
  obtain ⟨xr, hxr⟩ : ∃ xr, xr = (g dI H 0).r := ⟨_, rfl⟩
  obtain ⟨xc, hxc⟩ : ∃ xc, xc = (g dI H 0).c := ⟨_, rfl⟩
  obtain ⟨yr, hyr⟩ : ∃ yr, yr = (g dI H (H.length - 1)).r := ⟨_, rfl⟩
  obtain ⟨yc, hyc⟩ : ∃ yc, yc = (g dI H (H.length - 1)).c := ⟨_, rfl⟩
  rw [← hxr] at a1
  rw [← hxc] at a2
  rw [← hyr] at b1
  rw [← hyc] at b2
  have ex : g dI H 0 = ⟨.int .i64 xz, xr, xc⟩ := by rw [hxr, hxc, ← hxz]
  have ey : g dI H (H.length - 1) = ⟨.int .i64 yz, yr, yc⟩ := by rw [hyr, hyc, ← hyz]
  have EX := Lib.hid ex
  have EY := Lib.hid ey
  obtain ⟨k, hk⟩ : ∃ k, H.length = k + 1 := ⟨H.length - 1, by omega⟩
  have HK := Lib.hid hk
  rw [hk, Nat.add_sub_cancel] at b0 b1 b2
  rw [hk] at c0 hl
  have ho := hw.own
  have f0 := ho.frozenAt 0
  have f1 := ho.frozenAt 1
  have f2 := ho.frozenAt 2
  have g0 := ho.frozenAt (k * 3)
  have g1 := ho.frozenAt (k * 3 + 1)
  have g2 := ho.frozenAt (k * 3 + 2)
  have fq := hw.f0
  have lq := World.block_lt_of_cell? _ _ c0
  rw [Nat.zero_mul] at a0
  rw [Nat.zero_mul, Nat.zero_add] at a1 a2
  have i1 : (0 : Int) ≤ (k : Int) := by omega
  have i2 : (k : Int) < (k : Int) + 1 := by omega
  clear hw hh hxz hyz hxr hxc hyr hyc ex ey hk ho h0
  go_enter Try.func97, Try.ntmps97
  go_wp2_with fail
  go_region
  obtain ⟨W1, hW1⟩ : ∃ W1, W1 = ((((w.setCell ⟨gg, 0, none⟩ (.int .i64 yz)).setCell ⟨gg, 1, none⟩ (.int .i64 yr)).setCell ⟨gg, 2, none⟩ (.int .i64 yc)).alloc (.cells #[.int .i64 xz, .int .i64 xr, .int .i64 xc] 186)).drew := ⟨_, rfl⟩
  have hq1 : QU W1 D q (.slice (some ⟨gg, 0, none⟩) (k + 1) cap) (H.set 0 ⟨.int .i64 yz, yr, yc⟩) n := by
    have h1 := HW.out.put3 (by decide) rfl 0 (by rw [HK.out]; omega) ⟨.int .i64 yz, yr, yc⟩ ⟨yz, rfl⟩
    rw [HK.out] at h1
    rw [hW1]
    simp only [Nat.zero_mul, Nat.zero_add] at h1
    exact (h1.below ((Below.refl _ _).alloc (Nat.le_refl _) _)).drew
  have hg1 : Gr2 w W1 (some q) (some gg) := by
    rw [hW1]
    exact (((Gr2.of2 (gb_set (gb_set (gb_set (gb_refl w (some gg)) _ _) _ _) _ _)).step (s2 := none) (gr_of_below ((Below.refl _ _).alloc (Nat.le_refl _) _)) (fun b hb => by cases hb))).drew
  have hbx : W1.heap[w.heap.size]? = some (.cells #[.int .i64 xz, .int .i64 xr, .int .i64 xc] 186 (0, 0)) := by
    rw [hW1]
    have := heap_alloc_new (((w.setCell ⟨gg, 0, none⟩ (.int .i64 yz)).setCell ⟨gg, 1, none⟩ (.int .i64 yr)).setCell ⟨gg, 2, none⟩ (.int .i64 yc)) (.cells #[.int .i64 xz, .int .i64 xr, .int .i64 xc] 186)
    rw [World.size_setCell, World.size_setCell, World.size_setCell] at this
    exact this
  rw [← hW1]
  have HW1 := Lib.hid hW1
  have hl1 : (H.set 0 (⟨.int .i64 yz, yr, yc⟩ : QItem)).length = k + 1 := by rw [List.length_set]; exact HK.out
  have HL1 := Lib.hid hl1
  have d0 := hq1.c0
  have ho := hq1.own
  rw [hl1] at ho
  have e0 := ho.frozenAt (k * 3)
  have e1 := ho.frozenAt (k * 3 + 1)
  have e2 := ho.frozenAt (k * 3 + 2)
  have fq1 := hq1.f0
  have HQ1 := Lib.hid hq1
  have lq1 := World.block_lt_of_cell? _ _ d0
  have lt1 : gg < W1.heap.size := (own_lt ho gg rfl).2
  clear c0 a0 a1 a2 b0 b1 b2 f0 f1 f2 g0 g1 g2 fq hW1 hl1 ho hq1
  have hat1 := HQ1.out.at k (by rw [HL1.out]; omega)
  obtain ⟨u0, b0⟩ : ∃ u, W1.cell? ⟨gg, k * 3, none⟩ = some u := ⟨_, hat1.1⟩
  obtain ⟨u1, b1⟩ : ∃ u, W1.cell? ⟨gg, k * 3 + 1, none⟩ = some u := ⟨_, hat1.2.1⟩
  obtain ⟨u2, b2⟩ : ∃ u, W1.cell? ⟨gg, k * 3 + 2, none⟩ = some u := ⟨_, hat1.2.2⟩
  have hqg : ¬ q = gg := fun e => own_ne HQ1.out.own HQ1.out.block (by decide) gg rfl (by rw [e])
  have HBX := Lib.hid hbx
  have ltb := lt_of_heap hbx
  clear hbx hat1
  have hcap : k + 1 ≤ cap := by
    rcases HQ1.out.own.2 with ⟨h1, _⟩ | ⟨_, _, _, h1, _, _, h4, _⟩
    · cases h1
    · injection h1 with _ _ h6
      rw [← h6, HL1.out] at h4; exact h4
  go_wp2
  clear d0 e0 e1 e2 fq1 b0 b1 b2
  obtain ⟨W2, hW2⟩ : ∃ W2, W2 = (((W1.setCell ⟨gg, k * 3, none⟩ (.int .i64 0)).setCell ⟨gg, k * 3 + 1, none⟩ (.int .i64 0)).setCell ⟨gg, k * 3 + 2, none⟩ (.int .i64 0)).setCell ⟨q, 0, none⟩ (.slice (some ⟨gg, 0, none⟩) k cap) := ⟨_, rfl⟩
  have HCUT : Hid (((H.set 0 (⟨.int .i64 yz, yr, yc⟩ : QItem)).set k ⟨.int .i64 0, 0, 0⟩).take k = cutH dI H) := by
    have := cut_take H ⟨.int .i64 0, 0, 0⟩ (by rw [HK.out]; omega)
    rw [EY.out, HK.out, Nat.add_sub_cancel] at this
    exact Lib.hid this
  have hq2 : QU W2 D q (.slice (some ⟨gg, 0, none⟩) k cap) (cutH dI H) n := by
    have p1 := HQ1.out.put3 (by decide) HL1.out.symm k (by rw [HL1.out]; omega) ⟨.int .i64 0, 0, 0⟩ ⟨_, rfl⟩
    have p2 := q_cut p1 (by rw [List.length_set]; exact HL1.out.symm) (Nat.le_succ k) (by omega)
    rw [HCUT.out] at p2
    rw [hW2]; exact p2
  have hg2 : Gr2 w W2 (some q) (some gg) := by
    rw [hW2]
    exact (hg1.step (s2 := some gg) (Gr2.of2 (gb_set (gb_set (gb_set (gb_refl W1 (some gg)) _ _) _ _) _ _)) (fun b hb => .inl hb)).step (s2 := none) (Gr2.of1 (gb_set (gb_refl _ (some q)) _ _)) (fun b hb => by cases hb)
  have hbx2 : W2.heap[w.heap.size]? = some (.cells #[.int .i64 xz, .int .i64 xr, .int .i64 xc] 186 (0, 0)) := by
    rw [hW2]
    have n1 : w.heap.size ≠ gg := by omega
    have n2 : w.heap.size ≠ q := by omega
    exact heap_far (heap_far (heap_far (heap_far HBX.out n1 _) n1 _) n1 _) n2 _
  have hdn := cut_down dI H HH.out
  have hcl : (cutH dI H).length = k := by rw [cutH_length, HK.out, Nat.add_sub_cancel]
  obtain ⟨HF, hHF⟩ : ∃ HF, HF = cutH dI H := ⟨_, rfl⟩
  rw [← hHF] at hq2 hdn hcl
  rw [← hW2]
  have HHF := Lib.hid hHF
  have HQ2 := Lib.hid hq2
  have HG2 := Lib.hid hg2
  have HBX2 := Lib.hid hbx2
  have HDN := Lib.hid hdn
  have HCL := Lib.hid hcl
  clear hW2 hq2 hg2 hbx2 hdn hcl hHF hg1 HBX HQ1 HW1 HL1 HCUT lq1 lt1 hqg
  go_loopg [8] k (fun gk vi wx => ∃ (i : Nat) (Hx : List QItem), i ≤ k ∧ (i < k ∨ i = 0) ∧ gk = k - i ∧ vi = .int .i64 i ∧ QU wx D q (.slice (some ⟨gg, 0, none⟩) k cap) Hx n ∧ Hx.length = k ∧ Hx.Perm HF ∧ downOk dI Hx i ∧ wx.heap[w.heap.size]? = some (.cells #[.int .i64 xz, .int .i64 xr, .int .i64 xc] 186 (0, 0)) ∧ Gr2 w wx (some q) (some gg))
  case atStart => exact ⟨0, HF, Nat.zero_le _, .inr rfl, by omega, rfl, HQ2.out, HCL.out, List.Perm.refl _, HDN.out, HBX2.out, HG2.out⟩
  case round =>
    obtain ⟨i, Hx, im, ik, g2, rfl, hq, hxl, hxp, hxd, hbx, hgr⟩ := hrel
    have G2 := Lib.hid g2
    have IK := Lib.hid ik
    have HQ := Lib.hid hq
    have HXL := Lib.hid hxl
    have HXP := Lib.hid hxp
    have HXD := Lib.hid hxd
    have HBX := Lib.hid hbx
    clear g2 ik hq hxl hxp hxd hbx HQ2 HG2 HBX2 HDN HCL
    obtain ⟨a, ha⟩ : ∃ a, a = 2 * i + 1 := ⟨_, rfl⟩
    obtain ⟨b, hb⟩ : ∃ b, b = a + 1 := ⟨_, rfl⟩
    have hai : 2 * (i : Int) + 1 = a := by omega
    have hbi : (a : Int) + 1 = b := by omega
    have hab : a < b := by omega
    have hia : i < a := by omega
    have hb5 : b ≤ 10000 := by omega
    have pa : par a = i := by unfold par; omega
    have pb : par b = i := by unfold par; omega
    have pj : ∀ j, 0 < j → par j = i → j = a ∨ j = b := fun j j0 hj => by unfold par at hj; omega
    have PA := Lib.hid pa
    have PB := Lib.hid pb
    have PJ := Lib.hid pj
    have HA := Lib.hid ha
    have HB := Lib.hid hb
    clear ha hb pa pb pj
    by_cases hak : k ≤ a
    · have HH2 := Lib.hid (down_stop dI Hx i HXD.out (fun j j0 hj hp => by rw [HXL.out] at hj; rcases PJ.out j j0 hp with e | e <;> omega))
      have bx0 : wr.cell? ⟨w.heap.size, 0, none⟩ = some (.int .i64 xz) := by rw [cell_of_row wr w.heap.size 0 _ _ _ HBX.out]; rfl
      have bx1 : wr.cell? ⟨w.heap.size, 1, none⟩ = some (.int .i64 xr) := by rw [cell_of_row wr w.heap.size 1 _ _ _ HBX.out]; rfl
      go_wp2
      go_region
      go_wp2
      go_ret3
      exact take_end EX.out HHF.out HXP.out HH2.out HQ.out.drew hgr.drew
    · have hak' : ¬ k ≤ a := hak
      by_cases hbk : b < k
      · have cb := q_before wr D q n b a _ Hx (by rw [HXL.out]; omega) (by rw [HXL.out]; omega) (by rw [HXL.out]; omega) HQ.out
        obtain ⟨bb, hbb⟩ : ∃ bb, bb = bef (g dI Hx b) (g dI Hx a) := ⟨_, rfl⟩
        rw [← hbb] at cb
        have CB := Lib.hid cb
        have HBB := Lib.hid hbb
        clear cb hbb
        cases bb with
        | true =>
          have HMIN : Hid (∀ j, 0 < j → j < Hx.length → par j = i → le (g dI Hx b) (g dI Hx j)) := Lib.hid (fun j j0 hj hp => by
            rcases PJ.out j j0 hp with e | e
            · rw [e]; exact bef_true HBB.out.symm
            · rw [e]; exact le_refl _)
          go_wp2_with fail
          refine CB.out.mono ?_
          rintro e w5 ⟨rfl, hb5'⟩
          have HQ5 := Lib.hid (HQ.out.below hb5')
          have HBX5 := Lib.hid (heap_below HBX.out hb5')
          have hg5 := hgr.step (s2 := none) (gr_of_below hb5') (fun b hb => by cases hb)
          have PC := PB
          clear hb5' CB HQ HBX hgr
          have cb2 := q_before _ D q n i b _ Hx (by rw [HXL.out]; omega) (by rw [HXL.out]; omega) (by rw [HXL.out]; omega) HQ5.out
          obtain ⟨b2, hb2⟩ : ∃ b2, b2 = bef (g dI Hx i) (g dI Hx b) := ⟨_, rfl⟩
          rw [← hb2] at cb2
          have CB2 := Lib.hid cb2
          have HB2 := Lib.hid hb2
          clear cb2 hb2
          cases b2 with
          | true =>
            have HH2 := Lib.hid (down_stop dI Hx i HXD.out (fun j j0 hj hp => le_trans (bef_true HB2.out.symm) (HMIN.out j j0 hj hp)))
            go_wp2_with fail
            refine CB2.out.mono ?_
            rintro e w6 ⟨rfl, hb6⟩
            have HQ6 := Lib.hid (HQ5.out.below hb6)
            have HBX6 := Lib.hid (heap_below HBX5.out hb6)
            have hg6 := hg5.step (s2 := none) (gr_of_below hb6) (fun b hb => by cases hb)
            clear hb6 CB2 HQ5 HBX5
            have bx0 : w6.cell? ⟨w.heap.size, 0, none⟩ = some (.int .i64 xz) := by rw [cell_of_row w6 w.heap.size 0 _ _ _ HBX6.out]; rfl
            have bx1 : w6.cell? ⟨w.heap.size, 1, none⟩ = some (.int .i64 xr) := by rw [cell_of_row w6 w.heap.size 1 _ _ _ HBX6.out]; rfl
            go_wp2
            go_region
            go_wp2
            go_ret3
            exact take_end EX.out HHF.out HXP.out HH2.out HQ6.out.drew hg6.drew
          | false =>
            go_wp2_with fail
            refine CB2.out.mono ?_
            rintro e w6 ⟨rfl, hb6⟩
            have HQ6 := Lib.hid (HQ5.out.below hb6)
            have HBX6 := Lib.hid (heap_below HBX5.out hb6)
            have hg6 := hg5.step (s2 := none) (gr_of_below hb6) (fun b hb => by cases hb)
            clear hb6 CB2 HQ5 HBX5
            have c0 := HQ6.out.c0
            obtain ⟨a0, a1, a2⟩ := HQ6.out.at i (by rw [HXL.out]; omega)
            obtain ⟨b0, b1, b2⟩ := HQ6.out.at b (by rw [HXL.out]; omega)
            obtain ⟨pz, hxz⟩ := HQ6.out.vals _ (g_mem dI Hx i (by rw [HXL.out]; omega))
            obtain ⟨qz, hyz⟩ := HQ6.out.vals _ (g_mem dI Hx b (by rw [HXL.out]; omega))
            rw [hxz] at a0
            rw [hyz] at b0
            obtain ⟨pr, hxr⟩ : ∃ xr, xr = (g dI Hx i).r := ⟨_, rfl⟩
            obtain ⟨pc, hxc⟩ : ∃ xc, xc = (g dI Hx i).c := ⟨_, rfl⟩
            obtain ⟨qr, hyr⟩ : ∃ yr, yr = (g dI Hx b).r := ⟨_, rfl⟩
            obtain ⟨qc, hyc⟩ : ∃ yc, yc = (g dI Hx b).c := ⟨_, rfl⟩
            rw [← hxr] at a1
            rw [← hxc] at a2
            rw [← hyr] at b1
            rw [← hyc] at b2
            have ex : g dI Hx i = ⟨.int .i64 pz, pr, pc⟩ := by rw [hxr, hxc, ← hxz]
            have ey : g dI Hx b = ⟨.int .i64 qz, qr, qc⟩ := by rw [hyr, hyc, ← hyz]
            have EX2 := Lib.hid ex
            have EY2 := Lib.hid ey
            have ho := HQ6.out.own
            rw [HXL.out] at ho
            have fr := fun j => ho.frozenAt j
            have fi0 := fr (i * 3)
            have fi1 := fr (i * 3 + 1)
            have fi2 := fr (i * 3 + 2)
            have fp0 := fr (b * 3)
            have fp1 := fr (b * 3 + 1)
            have fp2 := fr (b * 3 + 2)
            have i1 : (0 : Int) ≤ (i : Int) := by omega
            have i2 : (i : Int) < (k : Int) := by omega
            have i3 : (0 : Int) ≤ (b : Int) := by omega
            have i4 : (b : Int) < (k : Int) := by omega
            clear hxz hyz hxr hxc hyr hyc ex ey fr ho
            have hia' : i < b := by omega
            have hck : b < k := by omega
            clear hai hbi hab hia hb5 hak hcap im
            go_wp2_with fail
            go_region
            go_wp2
            go_roundg (k - b)
            case measure => rw [G2.out]; omega
            case rel =>
              have hsw : swap dI Hx i b = (Hx.set i ⟨.int .i64 qz, qr, qc⟩).set b ⟨.int .i64 pz, pr, pc⟩ := by unfold swap; rw [EX2.out, EY2.out]
              have q1 := HQ6.out.put3 (by decide) HXL.out.symm i (by rw [HXL.out]; omega) ⟨.int .i64 qz, qr, qc⟩ ⟨qz, rfl⟩
              have q2 := q1.put3 (by decide) (by rw [List.length_set]; exact HXL.out.symm) b (by rw [List.length_set, HXL.out]; omega) ⟨.int .i64 pz, pr, pc⟩ ⟨pz, rfl⟩
              rw [← hsw] at q2
              have n1 : w.heap.size ≠ gg := by omega
              refine ⟨b, swap dI Hx i b, by omega, .inl (by omega), rfl, rfl, q2.drew, by rw [swap_length]; exact HXL.out, (swap_perm dI Hx i b (by rw [HXL.out]; omega) (by rw [HXL.out]; omega)).trans HXP.out, ?_, ?_, ?_⟩
              · exact down_step dI Hx i b HXD.out (by omega) (by rw [HXL.out]; omega) PC.out HMIN.out HB2.out.symm
              · exact Mem.heap_drew (heap_far6 HBX6.out n1 _ _ _ _ _ _ _ _ _ _ _ _)
              · exact (hg6.step (s2 := some gg) (Gr2.of2 (gb_set (gb_set (gb_set (gb_set (gb_set (gb_set (gb_refl w6 (some gg)) _ _) _ _) _ _) _ _) _ _) _ _)) (fun b hb => .inl hb)).drew
        | false =>
          have HMIN : Hid (∀ j, 0 < j → j < Hx.length → par j = i → le (g dI Hx a) (g dI Hx j)) := Lib.hid (fun j j0 hj hp => by
            rcases PJ.out j j0 hp with e | e
            · rw [e]; exact le_refl _
            · rw [e]; exact bef_false HBB.out.symm)
          go_wp2_with fail
          refine CB.out.mono ?_
          rintro e w5 ⟨rfl, hb5'⟩
          have HQ5 := Lib.hid (HQ.out.below hb5')
          have HBX5 := Lib.hid (heap_below HBX.out hb5')
          have hg5 := hgr.step (s2 := none) (gr_of_below hb5') (fun b hb => by cases hb)
          have PC := PA
          clear hb5' CB HQ HBX hgr
          have cb2 := q_before _ D q n i a _ Hx (by rw [HXL.out]; omega) (by rw [HXL.out]; omega) (by rw [HXL.out]; omega) HQ5.out
          obtain ⟨b2, hb2⟩ : ∃ b2, b2 = bef (g dI Hx i) (g dI Hx a) := ⟨_, rfl⟩
          rw [← hb2] at cb2
          have CB2 := Lib.hid cb2
          have HB2 := Lib.hid hb2
          clear cb2 hb2
          cases b2 with
          | true =>
            have HH2 := Lib.hid (down_stop dI Hx i HXD.out (fun j j0 hj hp => le_trans (bef_true HB2.out.symm) (HMIN.out j j0 hj hp)))
            go_wp2_with fail
            refine CB2.out.mono ?_
            rintro e w6 ⟨rfl, hb6⟩
            have HQ6 := Lib.hid (HQ5.out.below hb6)
            have HBX6 := Lib.hid (heap_below HBX5.out hb6)
            have hg6 := hg5.step (s2 := none) (gr_of_below hb6) (fun b hb => by cases hb)
            clear hb6 CB2 HQ5 HBX5
            have bx0 : w6.cell? ⟨w.heap.size, 0, none⟩ = some (.int .i64 xz) := by rw [cell_of_row w6 w.heap.size 0 _ _ _ HBX6.out]; rfl
            have bx1 : w6.cell? ⟨w.heap.size, 1, none⟩ = some (.int .i64 xr) := by rw [cell_of_row w6 w.heap.size 1 _ _ _ HBX6.out]; rfl
            go_wp2
            go_region
            go_wp2
            go_ret3
            exact take_end EX.out HHF.out HXP.out HH2.out HQ6.out.drew hg6.drew
          | false =>
            go_wp2_with fail
            refine CB2.out.mono ?_
            rintro e w6 ⟨rfl, hb6⟩
            have HQ6 := Lib.hid (HQ5.out.below hb6)
            have HBX6 := Lib.hid (heap_below HBX5.out hb6)
            have hg6 := hg5.step (s2 := none) (gr_of_below hb6) (fun b hb => by cases hb)
            clear hb6 CB2 HQ5 HBX5
            have c0 := HQ6.out.c0
            obtain ⟨a0, a1, a2⟩ := HQ6.out.at i (by rw [HXL.out]; omega)
            obtain ⟨b0, b1, b2⟩ := HQ6.out.at a (by rw [HXL.out]; omega)
            obtain ⟨pz, hxz⟩ := HQ6.out.vals _ (g_mem dI Hx i (by rw [HXL.out]; omega))
            obtain ⟨qz, hyz⟩ := HQ6.out.vals _ (g_mem dI Hx a (by rw [HXL.out]; omega))
            rw [hxz] at a0
            rw [hyz] at b0
            obtain ⟨pr, hxr⟩ : ∃ xr, xr = (g dI Hx i).r := ⟨_, rfl⟩
            obtain ⟨pc, hxc⟩ : ∃ xc, xc = (g dI Hx i).c := ⟨_, rfl⟩
            obtain ⟨qr, hyr⟩ : ∃ yr, yr = (g dI Hx a).r := ⟨_, rfl⟩
            obtain ⟨qc, hyc⟩ : ∃ yc, yc = (g dI Hx a).c := ⟨_, rfl⟩
            rw [← hxr] at a1
            rw [← hxc] at a2
            rw [← hyr] at b1
            rw [← hyc] at b2
            have ex : g dI Hx i = ⟨.int .i64 pz, pr, pc⟩ := by rw [hxr, hxc, ← hxz]
            have ey : g dI Hx a = ⟨.int .i64 qz, qr, qc⟩ := by rw [hyr, hyc, ← hyz]
            have EX2 := Lib.hid ex
            have EY2 := Lib.hid ey
            have ho := HQ6.out.own
            rw [HXL.out] at ho
            have fr := fun j => ho.frozenAt j
            have fi0 := fr (i * 3)
            have fi1 := fr (i * 3 + 1)
            have fi2 := fr (i * 3 + 2)
            have fp0 := fr (a * 3)
            have fp1 := fr (a * 3 + 1)
            have fp2 := fr (a * 3 + 2)
            have i1 : (0 : Int) ≤ (i : Int) := by omega
            have i2 : (i : Int) < (k : Int) := by omega
            have i3 : (0 : Int) ≤ (a : Int) := by omega
            have i4 : (a : Int) < (k : Int) := by omega
            clear hxz hyz hxr hxc hyr hyc ex ey fr ho
            have hia' : i < a := by omega
            have hck : a < k := by omega
            clear hai hbi hab hia hb5 hak hcap im
            go_wp2_with fail
            go_region
            go_wp2
            go_roundg (k - a)
            case measure => rw [G2.out]; omega
            case rel =>
              have hsw : swap dI Hx i a = (Hx.set i ⟨.int .i64 qz, qr, qc⟩).set a ⟨.int .i64 pz, pr, pc⟩ := by unfold swap; rw [EX2.out, EY2.out]
              have q1 := HQ6.out.put3 (by decide) HXL.out.symm i (by rw [HXL.out]; omega) ⟨.int .i64 qz, qr, qc⟩ ⟨qz, rfl⟩
              have q2 := q1.put3 (by decide) (by rw [List.length_set]; exact HXL.out.symm) a (by rw [List.length_set, HXL.out]; omega) ⟨.int .i64 pz, pr, pc⟩ ⟨pz, rfl⟩
              rw [← hsw] at q2
              have n1 : w.heap.size ≠ gg := by omega
              refine ⟨a, swap dI Hx i a, by omega, .inl (by omega), rfl, rfl, q2.drew, by rw [swap_length]; exact HXL.out, (swap_perm dI Hx i a (by rw [HXL.out]; omega) (by rw [HXL.out]; omega)).trans HXP.out, ?_, ?_, ?_⟩
              · exact down_step dI Hx i a HXD.out (by omega) (by rw [HXL.out]; omega) PC.out HMIN.out HB2.out.symm
              · exact Mem.heap_drew (heap_far6 HBX6.out n1 _ _ _ _ _ _ _ _ _ _ _ _)
              · exact (hg6.step (s2 := some gg) (Gr2.of2 (gb_set (gb_set (gb_set (gb_set (gb_set (gb_set (gb_refl w6 (some gg)) _ _) _ _) _ _) _ _) _ _) _ _)) (fun b hb => .inl hb)).drew
      · have HMIN : Hid (∀ j, 0 < j → j < Hx.length → par j = i → le (g dI Hx a) (g dI Hx j)) := Lib.hid (fun j j0 hj hp => by
          rw [HXL.out] at hj
          rcases PJ.out j j0 hp with e | e
          · rw [e]; exact le_refl _
          · omega)
        have HQ5 := HQ
        have HBX5 := HBX
        have hg5 := hgr
        have PC := PA
        clear HQ HBX hgr
        have cb2 := q_before _ D q n i a _ Hx (by rw [HXL.out]; omega) (by rw [HXL.out]; omega) (by rw [HXL.out]; omega) HQ5.out
        obtain ⟨b2, hb2⟩ : ∃ b2, b2 = bef (g dI Hx i) (g dI Hx a) := ⟨_, rfl⟩
        rw [← hb2] at cb2
        have CB2 := Lib.hid cb2
        have HB2 := Lib.hid hb2
        clear cb2 hb2
        cases b2 with
        | true =>
          have HH2 := Lib.hid (down_stop dI Hx i HXD.out (fun j j0 hj hp => le_trans (bef_true HB2.out.symm) (HMIN.out j j0 hj hp)))
          go_wp2_with fail
          refine CB2.out.mono ?_
          rintro e w6 ⟨rfl, hb6⟩
          have HQ6 := Lib.hid (HQ5.out.below hb6)
          have HBX6 := Lib.hid (heap_below HBX5.out hb6)
          have hg6 := hg5.step (s2 := none) (gr_of_below hb6) (fun b hb => by cases hb)
          clear hb6 CB2 HQ5 HBX5
          have bx0 : w6.cell? ⟨w.heap.size, 0, none⟩ = some (.int .i64 xz) := by rw [cell_of_row w6 w.heap.size 0 _ _ _ HBX6.out]; rfl
          have bx1 : w6.cell? ⟨w.heap.size, 1, none⟩ = some (.int .i64 xr) := by rw [cell_of_row w6 w.heap.size 1 _ _ _ HBX6.out]; rfl
          go_wp2
          go_region
          go_wp2
          go_ret3
          exact take_end EX.out HHF.out HXP.out HH2.out HQ6.out.drew hg6.drew
        | false =>
          go_wp2_with fail
          refine CB2.out.mono ?_
          rintro e w6 ⟨rfl, hb6⟩
          have HQ6 := Lib.hid (HQ5.out.below hb6)
          have HBX6 := Lib.hid (heap_below HBX5.out hb6)
          have hg6 := hg5.step (s2 := none) (gr_of_below hb6) (fun b hb => by cases hb)
          clear hb6 CB2 HQ5 HBX5
          have c0 := HQ6.out.c0
          obtain ⟨a0, a1, a2⟩ := HQ6.out.at i (by rw [HXL.out]; omega)
          obtain ⟨b0, b1, b2⟩ := HQ6.out.at a (by rw [HXL.out]; omega)
          obtain ⟨pz, hxz⟩ := HQ6.out.vals _ (g_mem dI Hx i (by rw [HXL.out]; omega))
          obtain ⟨qz, hyz⟩ := HQ6.out.vals _ (g_mem dI Hx a (by rw [HXL.out]; omega))
          rw [hxz] at a0
          rw [hyz] at b0
          obtain ⟨pr, hxr⟩ : ∃ xr, xr = (g dI Hx i).r := ⟨_, rfl⟩
          obtain ⟨pc, hxc⟩ : ∃ xc, xc = (g dI Hx i).c := ⟨_, rfl⟩
          obtain ⟨qr, hyr⟩ : ∃ yr, yr = (g dI Hx a).r := ⟨_, rfl⟩
          obtain ⟨qc, hyc⟩ : ∃ yc, yc = (g dI Hx a).c := ⟨_, rfl⟩
          rw [← hxr] at a1
          rw [← hxc] at a2
          rw [← hyr] at b1
          rw [← hyc] at b2
          have ex : g dI Hx i = ⟨.int .i64 pz, pr, pc⟩ := by rw [hxr, hxc, ← hxz]
          have ey : g dI Hx a = ⟨.int .i64 qz, qr, qc⟩ := by rw [hyr, hyc, ← hyz]
          have EX2 := Lib.hid ex
          have EY2 := Lib.hid ey
          have ho := HQ6.out.own
          rw [HXL.out] at ho
          have fr := fun j => ho.frozenAt j
          have fi0 := fr (i * 3)
          have fi1 := fr (i * 3 + 1)
          have fi2 := fr (i * 3 + 2)
          have fp0 := fr (a * 3)
          have fp1 := fr (a * 3 + 1)
          have fp2 := fr (a * 3 + 2)
          have i1 : (0 : Int) ≤ (i : Int) := by omega
          have i2 : (i : Int) < (k : Int) := by omega
          have i3 : (0 : Int) ≤ (a : Int) := by omega
          have i4 : (a : Int) < (k : Int) := by omega
          clear hxz hyz hxr hxc hyr hyc ex ey fr ho
          have hia' : i < a := by omega
          have hck : a < k := by omega
          clear hai hbi hab hia hb5 hak hcap im
          go_wp2_with fail
          go_region
          go_wp2
          go_roundg (k - a)
          case measure => rw [G2.out]; omega
          case rel =>
            have hsw : swap dI Hx i a = (Hx.set i ⟨.int .i64 qz, qr, qc⟩).set a ⟨.int .i64 pz, pr, pc⟩ := by unfold swap; rw [EX2.out, EY2.out]
            have q1 := HQ6.out.put3 (by decide) HXL.out.symm i (by rw [HXL.out]; omega) ⟨.int .i64 qz, qr, qc⟩ ⟨qz, rfl⟩
            have q2 := q1.put3 (by decide) (by rw [List.length_set]; exact HXL.out.symm) a (by rw [List.length_set, HXL.out]; omega) ⟨.int .i64 pz, pr, pc⟩ ⟨pz, rfl⟩
            rw [← hsw] at q2
            have n1 : w.heap.size ≠ gg := by omega
            refine ⟨a, swap dI Hx i a, by omega, .inl (by omega), rfl, rfl, q2.drew, by rw [swap_length]; exact HXL.out, (swap_perm dI Hx i a (by rw [HXL.out]; omega) (by rw [HXL.out]; omega)).trans HXP.out, ?_, ?_, ?_⟩
            · exact down_step dI Hx i a HXD.out (by omega) (by rw [HXL.out]; omega) PC.out HMIN.out HB2.out.symm
            · exact Mem.heap_drew (heap_far6 HBX6.out n1 _ _ _ _ _ _ _ _ _ _ _ _)
            · exact (hg6.step (s2 := some gg) (Gr2.of2 (gb_set (gb_set (gb_set (gb_set (gb_set (gb_set (gb_refl w6 (some gg)) _ _) _ _) _ _) _ _) _ _) _ _)) (fun b hb => .inl hb)).drew
end Go.Proofs.Ytlahmcbaiebapaa.Qint
