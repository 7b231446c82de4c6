/- The reference's Bits: Add, AddNat, Zigzag. -/
import Derived.Test.YtdhaaeaacbnghaaGrown
import Derived.Test.YtdhaaeaacbnghaaBitsP3
import Derived.BigQuiet
import Derived.Deep.QuietTactic
import Derived.Deep.LoopGhost
import Derived.Deep.DeepMust
import Derived.Laws.OwnMore
import Derived.Test.YtdhaaeaacbnghaaRows
namespace Go.Proofs.Ytdhaaeaacbnghaa
open Go.ChangeShapes Go.WideShapes Go.ChangeAt Go.RowKit Go.Mem Go.Bp
set_option linter.unusedVariables false

/-- A list of bits that is written. -/
structure Bs (w : World) (D g : Nat) (v : Value) (L : List Bool) : Prop where
  block : w.heap[g]? = some (.cells #[v, .int .i64 0] 66 (0, 0))
  own : w.ownsRow D 4 1 v L.length (vbools L)
  dg : D ≤ g
def AddPost (w : World) (D g : Nat) (v : Value) (r : Nat × List Bool) (e : Ending) (w' : World) : Prop :=
  e = .returned (.int .i64 r.1) ∧ ∃ v', Bs w' D g v' r.2 ∧ Gr2 w w' (some g) v.ownBlock ∧ (∀ b, v'.ownBlock = some b → v.ownBlock = some b ∨ w.heap.size ≤ b)
theorem Bs.c0 {w : World} {D g : Nat} {v : Value} {L : List Bool} (h : Bs w D g v L) : w.cell? ⟨g, 0, none⟩ = some v := by rw [cell_of_row w g 0 _ _ _ h.block]; rfl
theorem Bs.f0 {w : World} {D g : Nat} {v : Value} {L : List Bool} (h : Bs w D g v L) : w.frozen? ⟨g, 0, none⟩ = false := Mem.frozen_of_row h.block 0
theorem Bs.below {w w' : World} {D g : Nat} {v : Value} {L : List Bool} (h : Bs w D g v L) (hb : Below w.heap.size w w') : Bs w' D g v L := ⟨heap_below h.block hb, own_below h.own hb, h.dg⟩
theorem bs_same {w w' : World} {D g : Nat} {v : Value} {r : Nat × List Bool} {e : Ending} (h : Bs w D g v r.2) (he : e = .returned (.int .i64 r.1)) (hw : Below w.heap.size w w') : AddPost w D g v r e w' :=
  ⟨he, v, h.below hw, ⟨hw.os, hw.tape, hw.output, hw.size, fun k hk _ _ => hw.block k hk⟩, fun b hb => .inl hb⟩
theorem bs_Add_arg (w : World) (g v : Nat) (n : Int) (h : n < 0 ∨ 64 < n) :
    Calls Try.prog 55 #[.pointer (some ⟨g, 0, none⟩), .int .u64 v, .int .i64 n] w fun e w' => e = .returned (.int .i64 1) ∧ w = w' := by
  rcases (show n < 0 ∨ (0 ≤ n ∧ 64 < n) by omega) with q | ⟨q, q2⟩
  all_goals
    clear h
    go_enter Try.func55, Try.ntmps55
    go_wp2
    go_ret
    exact ⟨rfl, rfl⟩
set_option maxHeartbeats 16000000 in
set_option maxRecDepth 100000 in
theorem bs_Add_in (w : World) (D g v n : Nat) (x : Value) (L : List Bool) (h64 : n ≤ 64) (hlt : v < 18446744073709551616) (hl : L.length ≤ 524288) (hD : D ≤ w.heap.size) (hw : Bs w D g x L) :
    Calls Try.prog 55 #[.pointer (some ⟨g, 0, none⟩), .int .u64 v, .int .i64 n] w (AddPost w D g x (putR L v n)) := by
  have HW := Lib.hid hw
  obtain ⟨m, hm⟩ : ∃ m, m = L.length := ⟨_, rfl⟩
  rw [← hm] at hl
  have HM := Lib.hid hm
  obtain ⟨R, hR⟩ : ∃ R, R = putR L v n := ⟨_, rfl⟩
  rw [← hR]
  have HR := Lib.hid hR
  have hnil : w.ownsRow w.heap.size 4 1 (.slice none 0 0) 0 (vbools []) := ⟨rfl, .inl ⟨rfl, rfl⟩⟩
  have HNIL := Lib.hid hnil
  clear hw hm hR hnil
  go_enter Try.func55, Try.ntmps55
  go_wp2_with fail
  go_loopg [1, 7, 15] n (fun gk vv vl vi wx => ∃ (k u : Nat), k ≤ n ∧ gk = n - k ∧ vi = .int .i64 k ∧ u = v / 2 ^ k ∧ vv = .int .u64 u ∧ wx.ownsRow w.heap.size 4 1 vl k (vbools (bitsN v k)) ∧ Below w.heap.size w wx)
  case atStart => exact ⟨0, v, by omega, rfl, rfl, by simp, rfl, HNIL.out, Below.refl _ _⟩
  case round =>
    obtain ⟨k, u, kn, g2, rfl, hu, rfl, hown, hbw⟩ := hrel
    have G2 := Lib.hid g2
    have HU := Lib.hid hu
    have HOWN := Lib.hid hown
    have hul : u < 18446744073709551616 := by rw [hu]; exact Nat.lt_of_le_of_lt (Nat.div_le_self _ _) hlt
    clear g2 hu hown HNIL
    by_cases hkn : k < n
    · obtain ⟨b, hb⟩ : ∃ b, b = v.testBit k := ⟨_, rfl⟩
      have hbd : ((u : Int) % 2 == 1) = b := by
        rw [hb, testBit_dec, ← HU.out]
        rcases Nat.mod_two_eq_zero_or_one u with h | h
        · rw [h, show (u : Int) % 2 = 0 by omega]; rfl
        · rw [h, show (u : Int) % 2 = 1 by omega]; rfl
      have hst : vbools (bitsN v (k + 1)) = vbools (bitsN v k) ++ [Value.bool b] := by rw [bitsN_succ, ← hb]; simp [vbools]
      have HST := Lib.hid hst
      clear hst hb
      go_wp2_with (at_builtin; go_must (refine wpList_append_new rfl _ _ 64 rfl w.heap.size 4 (.bool false) 1 1 Try.underlying64 (by kernel_rfl) rfl (by decide) _ _ _ rfl HOWN.out _ _ rfl rfl rfl (by omega) (by decide) hbw.size ?_))
      intro gg cap1 w1 hown1 hg hor hlt'
      have hbn := hbw.grown hg hbw.size (fun j hj => (own_lt HOWN.out j hj).1)
      have ho : w1.ownsRow w.heap.size 4 1 (.slice (some ⟨gg, 0, none⟩) (k + 1) cap1) (k + 1) (vbools (bitsN v (k + 1))) := by rw [HST.out]; exact hown1
      have HO := Lib.hid ho
      clear ho hown1 hg hor hbd hbw
      go_wp2
      go_roundg (n - (k + 1))
      case measure => rw [G2.out]; omega
      case rel => exact ⟨k + 1, u / 2, by omega, rfl, by go_num, by rw [HU.out, Nat.div_div_eq_div_mul, Nat.pow_succ], by go_num, HO.out, hbn⟩
    · obtain rfl : k = n := by omega
      have hu := HU.out
      have hR := HR.out
      unfold putR at hR
      rw [Int.toNat_natCast, ← hu, ← HM.out] at hR
      have HBS := Lib.hid (heap_below HW.out.block hbw)
      have c0 : wr.cell? ⟨g, 0, none⟩ = some x := by rw [cell_of_row wr g 0 _ _ _ HBS.out]; rfl
      have f0 : wr.frozen? ⟨g, 0, none⟩ = false := Mem.frozen_of_row HBS.out 0
      have hx := own_below HW.out.own hbw
      rw [← HM.out] at hx
      obtain ⟨xa, xc, rfl, _, _⟩ := own_slice hx
      obtain ⟨la, lc, rfl, _, _⟩ := own_slice HOWN.out
      have HX := Lib.hid hx
      have hd : decide (k < k) = false := by simp
      by_cases h0 : u = 0
      · have h0' : ((u : Int) != 0) = false := by simp; omega
        by_cases hf : 524288 < m + k
        · rw [if_neg (by omega), if_pos hf] at hR
          subst hR
          clear hu hx h0
          go_wp2
          go_ret
          exact bs_same (r := (6, L)) HW.out rfl hbw
        · rw [if_neg (by omega), if_neg hf] at hR
          subst hR
          have hDw : D ≤ wr.heap.size := Nat.le_trans hD hbw.size
          have hfi : ¬ (524288 : Int) < (m : Int) + k := by omega
          have lb : (vbools (bitsN v k)).length = k := by rw [vbools_length, bitsN_length]
          have LB := Lib.hid lb
          clear hu hx h0 lb
          go_wp2_with (at_builtin; go_must (refine wpList_append_vals rfl _ _ 64 rfl D 4 (.bool false) 1 Try.underlying64 (by kernel_rfl) rfl (.slice xa m xc) m (vbools L) rfl HX.out la k lc (vbools (bitsN v k)) rfl LB.out (vbools_one _) (ValsAt.of_own HOWN.out LB.out.symm) (by unfold maxLen; omega) (by omega) hDw ?_))
          intro v' w1 hown1 hg hor
          have hne := own_ne HX.out HBS.out (by decide)
          have hb1 := heap_gb HBS.out hg (fun e => hne _ e.symm rfl)
          have k0 : w1.cell? ⟨g, 0, none⟩ = some (.slice xa m xc) := by rw [cell_of_row w1 g 0 _ _ _ hb1]; rfl
          have k1 : w1.frozen? ⟨g, 0, none⟩ = false := Mem.frozen_of_row hb1 0
          rw [vbools_append] at hown1
          obtain ⟨va, vc, rfl, _, _⟩ := own_slice hown1
          have HB1 := Lib.hid hb1
          have HO1 := Lib.hid hown1
          have HG := Lib.hid hg
          have HOR := Lib.hid hor
          clear hb1 hown1 hg hor hne c0 f0
          go_wp2
          go_ret
          have hlen : (L ++ bitsN v k).length = m + k := by rw [List.length_append, bitsN_length, ← HM.out]
          have hgr : Gr2 w w1 (some g) (Value.slice xa m xc).ownBlock := (Gr2.refl w (some g) (Value.slice xa m xc).ownBlock).step (s2 := (Value.slice xa m xc).ownBlock) ⟨(HG.out.os).trans hbw.os, (HG.out.tape).trans hbw.tape, (HG.out.output).trans hbw.output, Nat.le_trans hbw.size HG.out.size, fun j hj _ h2 => (HG.out.block j (Nat.lt_of_lt_of_le hj hbw.size) h2).trans (hbw.block j hj)⟩ (fun b hb => .inl hb)
          refine ⟨rfl, .slice va (m + k) vc, ⟨heap_set HB1.out 0 _, ?_, HW.out.dg⟩, hgr.step (s2 := none) (Gr2.of1 (gb_set (gb_refl _ (some g)) 0 _)) (fun b hb => by cases hb), fun b hb => ?_⟩
          · rw [hlen]
            exact own_set HO1.out (own_ne HO1.out HB1.out (by decide)) 0 _
          · rcases HOR.out with h | h
            · left; rw [← h]; exact hb
            · right
              rw [h] at hb
              injection hb with hb
              rw [← hb]; exact hbw.size
      · have h0' : ((u : Int) != 0) = true := by simp; omega
        rw [if_pos (by omega)] at hR
        subst hR
        clear hu hx h0
        go_wp2
        go_ret
        exact bs_same (r := (1, L)) HW.out rfl hbw
theorem bs_Add (w : World) (D g v : Nat) (n : Int) (x : Value) (L : List Bool) (hlt : v < 18446744073709551616) (hl : L.length ≤ 524288) (hD : D ≤ w.heap.size) (hw : Bs w D g x L) :
    Calls Try.prog 55 #[.pointer (some ⟨g, 0, none⟩), .int .u64 v, .int .i64 n] w (AddPost w D g x (putR L v n)) := by
  by_cases h : n < 0 ∨ 64 < n
  · unfold putR
    rw [if_pos (by omega)]
    exact (bs_Add_arg w g v n h).mono fun e w' p => bs_same hw p.1 (by rw [← p.2]; exact Below.refl _ _)
  · obtain ⟨k, rfl⟩ : ∃ k : Nat, n = k := ⟨n.toNat, by omega⟩
    exact bs_Add_in w D g v k x L (by omega) hlt hl hD hw

set_option maxHeartbeats 16000000 in
set_option maxRecDepth 100000 in
theorem bs_AddNat (w : World) (D g v : Nat) (x : Value) (L : List Bool) (hlt : v < 18446744073709551616) (hl : L.length ≤ 524288) (hD : D ≤ w.heap.size) (hw : Bs w D g x L) :
    Calls Try.prog 57 #[.pointer (some ⟨g, 0, none⟩), .int .u64 v] w (AddPost w D g x (natW L v)) := by
  have HW := Lib.hid hw
  obtain ⟨m, hm⟩ : ∃ m, m = L.length := ⟨_, rfl⟩
  rw [← hm] at hl
  have HM := Lib.hid hm
  obtain ⟨R, hR⟩ : ∃ R, R = natW L v := ⟨_, rfl⟩
  rw [← hR]
  have HR := Lib.hid hR
  have hg16 := grp_16 v hlt
  have hg1 := grp_pos v
  obtain ⟨G, hG⟩ : ∃ G, G = grp v := ⟨_, rfl⟩
  have HG0 := Lib.hid hG
  rw [← hG] at hg16 hg1
  have hnil : w.ownsRow w.heap.size 4 1 (.slice none 0 0) 0 (vbools []) := ⟨rfl, .inl ⟨rfl, rfl⟩⟩
  have HNIL := Lib.hid hnil
  clear hw hm hR hnil hG
  go_enter Try.func57, Try.ntmps57
  go_wp2_with fail
  go_loopg [1, 5, 6, 8] G (fun gk vv vl vm _ wx => ∃ (i u M : Nat) (mb : Bool), i ≤ G ∧ gk = G - i ∧ u = v / 16 ^ i ∧ vv = .int .u64 u ∧ vm = .bool mb ∧ mb = decide (i < G) ∧ M = 5 * i ∧ wx.ownsRow w.heap.size 4 1 vl M (vbools (Bp.groups v i)) ∧ Below w.heap.size w wx)
  case atStart => exact ⟨0, v, 0, true, by omega, rfl, by simp, rfl, rfl, by rw [decide_eq_true (show 0 < G from hg1)], rfl, HNIL.out, Below.refl _ _⟩
  case round =>
    obtain ⟨i, u, M, mb, hi, g2, hu, rfl, rfl, hmb, hM, hown, hbw⟩ := hrel
    have G2 := Lib.hid g2
    have HU := Lib.hid hu
    have HOWN := Lib.hid hown
    have HMM := Lib.hid hM
    have hMb : M ≤ 80 := by omega
    have hul : u < 18446744073709551616 := by rw [hu]; exact Nat.lt_of_le_of_lt (Nat.div_le_self _ _) hlt
    clear g2 hu hown HNIL hM
    by_cases hig : i < G
    · obtain rfl : mb = true := by rw [hmb, decide_eq_true hig]
      clear hmb
      obtain ⟨wo, hwo⟩ : ∃ wo : World, wo = wr := ⟨_, rfl⟩
      subst hwo
      go_wp2_with fail
      go_loopg [1, 5, 8] 4 (fun gj vv vl vj wx => ∃ (j y M2 : Nat), j ≤ 4 ∧ gj = 4 - j ∧ vj = .int .i64 j ∧ y = u / 2 ^ j ∧ vv = .int .u64 y ∧ M2 = M + j ∧ wx.ownsRow w.heap.size 4 1 vl M2 (vbools (Bp.groups v i ++ bitsN u j)) ∧ Below w.heap.size w wx)
      case atStart => exact ⟨0, u, M, by omega, rfl, rfl, by simp, rfl, rfl, by have := HOWN.out; simpa [bitsN] using this, hbw⟩
      case round =>
        clear hbw HOWN
        obtain ⟨j, y, M2, j4, g3, rfl, hy, rfl, hM2, hown, hbw⟩ := hrel
        have G3 := Lib.hid g3
        have HY := Lib.hid hy
        have HOWN := Lib.hid hown
        have HM2 := Lib.hid hM2
        have hyl : y < 18446744073709551616 := by rw [hy]; exact Nat.lt_of_le_of_lt (Nat.div_le_self _ _) hul
        have hM2b : M2 ≤ 84 := by omega
        clear g3 hy hown hM2
        by_cases hj : j < 4
        · obtain ⟨b, hb⟩ : ∃ b, b = u.testBit j := ⟨_, rfl⟩
          have hbd : ((y : Int) % 2 == 1) = b := by
            rw [hb, testBit_dec, ← HY.out]
            rcases Nat.mod_two_eq_zero_or_one y with h | h
            · rw [h, show (y : Int) % 2 = 0 by omega]; rfl
            · rw [h, show (y : Int) % 2 = 1 by omega]; rfl
          have hst : vbools (Bp.groups v i ++ bitsN u (j + 1)) = vbools (Bp.groups v i ++ bitsN u j) ++ [Value.bool b] := by rw [bitsN_succ, ← hb]; simp [vbools]
          have HST := Lib.hid hst
          clear hst hb
          go_wp2_with (at_builtin; go_must (refine wpList_append_new rfl _ _ 64 rfl w.heap.size 4 (.bool false) 1 1 Try.underlying64 (by kernel_rfl) rfl (by decide) _ _ _ rfl HOWN.out _ _ rfl rfl rfl (by omega) (by decide) hbw.size ?_))
          intro gg cap1 w1 hown1 hg hor hlt'
          have hbn := hbw.grown hg hbw.size (fun j hj => (own_lt HOWN.out j hj).1)
          have ho : w1.ownsRow w.heap.size 4 1 (.slice (some ⟨gg, 0, none⟩) (M2 + 1) cap1) (M2 + 1) (vbools (Bp.groups v i ++ bitsN u (j + 1))) := by rw [HST.out]; exact hown1
          have HO := Lib.hid ho
          clear ho hown1 hg hor hbd hbw
          go_wp2
          go_roundg (4 - (j + 1))
          case measure => rw [G3.out]; omega
          case rel => exact ⟨j + 1, y / 2, M2 + 1, by omega, rfl, by go_num, by rw [HY.out, Nat.div_div_eq_div_mul, Nat.pow_succ], by go_num, by have := HM2.out; omega, HO.out, hbn⟩
        · obtain rfl : j = 4 := by omega
          have hd : decide ((4 : Int) < 4) = false := by simp
          have hy2 : y = v / 16 ^ (i + 1) := by rw [HY.out, HU.out, Nat.div_div_eq_div_mul, show (2 : Nat) ^ 4 = 16 by decide, ← Nat.pow_succ]
          have hgl := grp_lt v i
          rw [← hy2, ← HG0.out] at hgl
          obtain ⟨b, hb⟩ : ∃ b, b = decide (i + 1 < G) := ⟨_, rfl⟩
          have hyb : decide (0 < (y : Int)) = b := by
            rw [hb]
            by_cases q : 0 < y
            · rw [decide_eq_true (hgl.1 q), decide_eq_true (by omega)]
            · rw [decide_eq_false (fun h => q (hgl.2 h)), decide_eq_false (by omega)]
          have hyb2 : decide (0 < y) = b := by
            rw [hb]
            by_cases q : 0 < y
            · rw [decide_eq_true (hgl.1 q), decide_eq_true q]
            · rw [decide_eq_false (fun h => q (hgl.2 h)), decide_eq_false q]
          have hst : vbools (Bp.groups v (i + 1)) = vbools (Bp.groups v i ++ bitsN u 4) ++ [Value.bool b] := by
            simp only [Bp.groups, group]
            rw [← HU.out, ← HG0.out, ← hb]; simp [vbools]
          have HST := Lib.hid hst
          have HY2 := Lib.hid hy2
          have HB := Lib.hid hb
          clear hst hb hgl hy2
          go_wp2_with (at_builtin; go_must (refine wpList_append_new rfl _ _ 64 rfl w.heap.size 4 (.bool false) 1 1 Try.underlying64 (by kernel_rfl) rfl (by decide) _ _ _ rfl HOWN.out _ _ rfl rfl rfl (by omega) (by decide) hbw.size ?_))
          intro gg cap1 w1 hown1 hg hor hlt'
          have hbn := hbw.grown hg hbw.size (fun j hj => (own_lt HOWN.out j hj).1)
          have ho : w1.ownsRow w.heap.size 4 1 (.slice (some ⟨gg, 0, none⟩) (M2 + 1) cap1) (M2 + 1) (vbools (Bp.groups v (i + 1))) := by rw [HST.out]; exact hown1
          have HO := Lib.hid ho
          clear ho hown1 hg hor hbw hyb hyb2
          go_wp2
          go_roundg (G - (i + 1))
          case measure => rw [G2.out]; omega
          case rel => exact ⟨i + 1, y, M2 + 1, b, by omega, rfl, HY2.out, rfl, rfl, HB.out, by have := HM2.out; have := HMM.out; omega, HO.out, hbn⟩
    · obtain rfl : i = G := by omega
      obtain rfl : mb = false := by rw [hmb, decide_eq_false (by omega)]
      clear hmb
      have hR := HR.out
      unfold natW at hR
      rw [← HG0.out, ← HM.out] at hR
      have HBS := Lib.hid (heap_below HW.out.block hbw)
      have c0 : wr.cell? ⟨g, 0, none⟩ = some x := by rw [cell_of_row wr g 0 _ _ _ HBS.out]; rfl
      have f0 : wr.frozen? ⟨g, 0, none⟩ = false := Mem.frozen_of_row HBS.out 0
      have hx := own_below HW.out.own hbw
      rw [← HM.out] at hx
      obtain ⟨xa, xc, rfl, _, _⟩ := own_slice hx
      obtain ⟨la, lc, rfl, _, _⟩ := own_slice HOWN.out
      have HX := Lib.hid hx
      have hM5 := HMM.out
      by_cases hf : 524288 < m + M
      · rw [if_pos (by omega)] at hR
        subst hR
        have hfi : (524288 : Int) < (m : Int) + M := by omega
        clear hx hM5
        go_wp2
        go_ret
        exact bs_same (r := (6, L)) HW.out rfl hbw
      · rw [if_neg (by omega)] at hR
        subst hR
        have hDw : D ≤ wr.heap.size := Nat.le_trans hD hbw.size
        have hfi : ¬ (524288 : Int) < (m : Int) + M := by omega
        have lb : (vbools (Bp.groups v i)).length = M := by rw [vbools_length, groups_length]; exact hM5.symm
        have LB := Lib.hid lb
        clear hx lb hM5
        go_wp2_with (at_builtin; go_must (refine wpList_append_vals rfl _ _ 64 rfl D 4 (.bool false) 1 Try.underlying64 (by kernel_rfl) rfl (.slice xa m xc) m (vbools L) rfl HX.out la M lc (vbools (Bp.groups v i)) rfl LB.out (vbools_one _) (ValsAt.of_own HOWN.out LB.out.symm) (by unfold maxLen; omega) (by omega) hDw ?_))
        intro v' w1 hown1 hg hor
        have hne := own_ne HX.out HBS.out (by decide)
        have hb1 := heap_gb HBS.out hg (fun e => hne _ e.symm rfl)
        have k0 : w1.cell? ⟨g, 0, none⟩ = some (.slice xa m xc) := by rw [cell_of_row w1 g 0 _ _ _ hb1]; rfl
        have k1 : w1.frozen? ⟨g, 0, none⟩ = false := Mem.frozen_of_row hb1 0
        rw [vbools_append] at hown1
        obtain ⟨va, vc, rfl, _, _⟩ := own_slice hown1
        have HB1 := Lib.hid hb1
        have HO1 := Lib.hid hown1
        have HG := Lib.hid hg
        have HOR := Lib.hid hor
        clear hb1 hown1 hg hor hne c0 f0
        go_wp2
        go_ret
        have hlen : (L ++ Bp.groups v i).length = m + M := by rw [List.length_append, groups_length, ← HM.out, HMM.out]
        have hgr : Gr2 w w1 (some g) (Value.slice xa m xc).ownBlock := (Gr2.refl w (some g) (Value.slice xa m xc).ownBlock).step (s2 := (Value.slice xa m xc).ownBlock) ⟨(HG.out.os).trans hbw.os, (HG.out.tape).trans hbw.tape, (HG.out.output).trans hbw.output, Nat.le_trans hbw.size HG.out.size, fun j hj _ h2 => (HG.out.block j (Nat.lt_of_lt_of_le hj hbw.size) h2).trans (hbw.block j hj)⟩ (fun b hb => .inl hb)
        refine ⟨rfl, .slice va (m + M) vc, ⟨heap_set HB1.out 0 _, ?_, HW.out.dg⟩, hgr.step (s2 := none) (Gr2.of1 (gb_set (gb_refl _ (some g)) 0 _)) (fun b hb => by cases hb), fun b hb => ?_⟩
        · rw [hlen]
          exact own_set HO1.out (own_ne HO1.out HB1.out (by decide)) 0 _
        · rcases HOR.out with h | h
          · left; rw [← h]; exact hb
          · right
            rw [h] at hb
            injection hb with hb
            rw [← hb]; exact hbw.size

set_option maxHeartbeats 4000000 in
theorem ref_Zigzag (v : Int) (h1 : -9223372036854775808 ≤ v) (h2 : v ≤ 9223372036854775807) (w : World) : Calls Try.prog 59 #[.int .i64 v] w fun e w' => e = .returned (.int .u64 (zig v : Nat)) ∧ w = w' := by
  obtain ⟨Z, hZ⟩ : ∃ Z, Z = zig v := ⟨_, rfl⟩
  rw [← hZ]
  unfold zig at hZ
  by_cases q : v < 0
  · rw [if_pos q] at hZ
    have e1 : IntKind.u64.wrap (-(v + 1)) = -(v + 1) := by rw [IntKind.wrap_u64]; omega
    have e2 : 2 * -(v + 1) + 1 = (Z : Int) := by omega
    have HE2 := Lib.hid e2
    clear hZ e2
    go_enter Try.func59, Try.ntmps59
    go_wp2
    go_ret
    exact ⟨by rw [← HE2.out]; rfl, rfl⟩
  · rw [if_neg q] at hZ
    have e1 : IntKind.u64.wrap v = v := by rw [IntKind.wrap_u64]; omega
    have e2 : 2 * v = (Z : Int) := by omega
    have HE2 := Lib.hid e2
    clear hZ e2
    go_enter Try.func59, Try.ntmps59
    go_wp2
    go_ret
    exact ⟨by rw [← HE2.out]; rfl, rfl⟩
end Go.Proofs.Ytdhaaeaacbnghaa
