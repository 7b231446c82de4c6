/- The law CmdLimits: the walk. -/
import Derived.Test.YtfckbkhnelgjbaaWPair
import Derived.Test.YtfckbkhnelgjbaaConcatC
import Derived.Deep.DeepMust
import Derived.OwnWalk
namespace Go.Proofs.Ytfckbkhnelgjbaa
open Go.ChangeShapes Go.WideShapes Go.ChangeAt Go.RowKit Go.Nm Go.Mem
set_option linter.unusedVariables false
def oneV (i j : Nat) : Value := if j % 5 = 0 then (if j / 5 < i then .int .i64 2 else .int .i64 0) else if j % 5 = 4 then .slice none 0 0 else .int .i64 0
/-- the row of commands, i of them told -/
def OneRow (w : World) (g i : Nat) : Prop := ∃ cs, w.heap[g]? = some (.cells cs 27 (0, 0)) ∧ cs.size = 40960 ∧ ∀ j, j < 40960 → cs[j]? = some (oneV i j)
theorem OneRow.made {w : World} {B cap : Nat} {g : Nat} (h : w.ownsRow B 27 5 (.slice (some ⟨g, 0, none⟩) 8192 8192) 8192 (madeCells (Value.agg #[.int .i64 0, .int .i64 0, .int .i64 0, .int .i64 0, .slice none 0 0]).cells (8192 * 5)).toList) : OneRow w g 0 := by
  obtain ⟨_, h2⟩ := h
  rcases h2 with ⟨h, _⟩ | ⟨g', cap, cur, hv, _, hh, _, _, hsz, htk⟩
  · cases h
  · injection hv with h1 _ h3
    injection h1 with h1
    injection h1 with h1
    subst h1 h3
    refine ⟨cur, hh, hsz, fun j hj => ?_⟩
    have h5 : cur.toList = (madeCells (Value.agg #[.int .i64 0, .int .i64 0, .int .i64 0, .int .i64 0, .slice none 0 0]).cells (8192 * 5)).toList := by
      rw [← htk, List.take_of_length_le (by rw [Array.length_toList, hsz]; exact Nat.le_refl _)]
    have h6 : cur = madeCells (Value.agg #[.int .i64 0, .int .i64 0, .int .i64 0, .int .i64 0, .slice none 0 0]).cells (8192 * 5) := Array.toList_inj.1 h5
    rw [h6]
    unfold madeCells
    rw [Array.getElem?_map, Array.getElem?_range, if_pos (by omega)]
    show some ((#[.int .i64 0, .int .i64 0, .int .i64 0, .int .i64 0, .slice none 0 0] : Array Value)[j % 5]!) = _
    unfold oneV
    rcases (show j % 5 = 0 ∨ j % 5 = 1 ∨ j % 5 = 2 ∨ j % 5 = 3 ∨ j % 5 = 4 by omega) with e | e | e | e | e <;> rw [e] <;> simp
theorem OneRow.step {w : World} {g i : Nat} (h : OneRow w g i) (hi : i < 8192) : w.cell? ⟨g, i * 5, none⟩ = some (oneV i (i * 5)) ∧ w.frozen? ⟨g, i * 5, none⟩ = false ∧ OneRow (w.setCell ⟨g, i * 5, none⟩ (.int .i64 2)) g (i + 1) := by
  obtain ⟨cs, h1, h2, h3⟩ := h
  refine ⟨by rw [cell_of_row _ _ _ _ _ _ h1]; exact h3 _ (by omega), Mem.frozen_of_row h1 _, _, heap_set h1 _ _, by simpa using h2, fun j hj => ?_⟩
  rw [Array.getElem?_setIfInBounds]
  by_cases e : i * 5 = j
  · subst e
    rw [if_pos rfl, if_pos (by omega)]
    unfold oneV
    rw [if_pos (by omega), if_pos (by omega)]
  · rw [if_neg e, h3 j hj]
    unfold oneV
    by_cases e1 : j % 5 = 0
    · rw [if_pos e1, if_pos e1]
      by_cases e2 : j / 5 < i
      · rw [if_pos e2, if_pos (by omega)]
      · rw [if_neg e2, if_neg (by omega)]
    · rw [if_neg e1, if_neg e1]
def killV : CmdV := ⟨2, 0, 0, 0, []⟩
theorem OneRow.at_ {w : World} {g : Nat} (h : OneRow w g 8192) : SlAt 5 CmdAt w (some ⟨g, 0, none⟩) (List.replicate 8192 killV) := fun _ => by
  obtain ⟨cs, h1, h2, h3⟩ := h
  refine ⟨_, rfl, lt_of_heap h1, fun i hi => ?_⟩
  rw [List.length_replicate] at hi
  rw [List.getElem_replicate, Addr.add_lit, Nat.zero_add]
  have hc := fun (j : Nat) (hj : j < 40960) => (cell_of_row w g j _ _ _ h1).trans (h3 j hj)
  have c0 := hc (i * 5) (by omega)
  have c1 := hc (i * 5 + 1) (by omega)
  have c2 := hc (i * 5 + 2) (by omega)
  have c3 := hc (i * 5 + 3) (by omega)
  have c4 := hc (i * 5 + 4) (by omega)
  unfold oneV at c0 c1 c2 c3 c4
  rw [if_pos (by omega), if_pos (by omega)] at c0
  rw [if_neg (by omega), if_neg (by omega)] at c1 c2 c3
  rw [if_neg (by omega), if_pos (by omega)] at c4
  exact ⟨c0, c1, c2, c3, none, 0, c4, fun h => by simp [killV] at h⟩
theorem cmd_Check_large (v : Value) (a : Option Addr) (n c : Nat) (h : 131072 < n) (w : World) (hv : WorldIn w v pairV) : Calls Try.prog 8 #[v, .slice a n c] w fun e w' => e = .returned (.int .i64 2) ∧ Below w.heap.size w w' := by
  have hin := hv
  obtain ⟨ak, ck, ag, cg, ai, ci, rfl, _⟩ := hv
  have CC := Lib.hid (fun w' hb => world_Check pairV _ w' (WorldIn.below hin hb) pair_small)
  rw [pair_ok] at CC
  have CC := CC
  obtain ⟨nk, hnk⟩ : ∃ nk, nk = pairV.kinds.length := ⟨_, rfl⟩
  obtain ⟨ng, hng⟩ : ∃ ng, ng = pairV.gens.length := ⟨_, rfl⟩
  obtain ⟨ni, hni⟩ : ∃ ni, ni = pairV.items.length := ⟨_, rfl⟩
  rw [← hnk, ← hng, ← hni] at CC ⊢
  clear hin hnk hng hni
  obtain ⟨o1, ho1⟩ : ∃ o : Obj, o = .cells #[.slice ak nk ck, .slice ag ng cg, .slice ai ni ci] 37 (0, 0) := ⟨_, rfl⟩
  have hbA := (Below.refl w.heap.size w).alloc (Nat.le_refl _) o1
  rw [ho1] at hbA
  have HBA := Lib.hid hbA
  clear hbA ho1 o1
  go_enter Try.func8, Try.ntmps8
  go_wp2_with fail
  refine (CC.out _ HBA.out).mono ?_
  rintro e w1 ⟨rfl, hb1⟩
  have hb := HBA.out.trans (hb1.mono HBA.out.size)
  clear hb1 HBA CC
  go_wp2
  go_ret
  exact ⟨rfl, hb⟩
abbrev oneS (g : Nat) : Value := .slice (some ⟨g, 0, none⟩) 8192 8192
abbrev oneSN (g N : Nat) : Value := .slice (some ⟨g, 0, none⟩) N N
abbrev killL : List CmdV := List.replicate 8192 killV
theorem tot_rep (K : Nat) : tot (List.replicate K killL) = K * 8192 := by
  unfold tot
  rw [List.map_replicate, List.sum_replicate_nat, List.length_replicate]
theorem rows_at {w : World} {B K g : Nat} {v : Value} (h : w.ownsRow B 22 1 v K (List.replicate K (oneS g))) (h1 : OneRow w g 8192) (hK : 0 < K) : ∃ a c, v = .slice a K c ∧ SlAt 1 CmdsAt w a (List.replicate K killL) := by
  obtain ⟨g2, cap, hf, _, hg⟩ := h.form hK
  subst hf
  refine ⟨_, _, rfl, fun _ => ⟨_, rfl, hg, fun i hi => ?_⟩⟩
  rw [List.length_replicate] at hi
  rw [List.getElem_replicate, Addr.add_lit, Nat.zero_add, Nat.mul_one]
  have hc := h.cellAt i (by rw [Nat.mul_one]; exact hi)
  rw [List.getElem?_replicate, if_pos hi] at hc
  exact ⟨some ⟨g, 0, none⟩, 8192, by rw [hc]; exact congrArg some (congrArg (fun n => Value.slice (some ⟨g, 0, none⟩) n 8192) List.length_replicate.symm), h1.at_⟩
set_option maxHeartbeats 8000000 in
theorem walk_CmdLimits (n : Int) (w : World) : Calls Try.prog 3 #[.int .i64 n] w fun e w' => e = .returned (.bool true) ∧ Below w.heap.size w w' := by
  have PW := Lib.hid pair_w
  obtain ⟨t, ht⟩ : ∃ t, t = n.tmod 4 := ⟨_, rfl⟩
  have t1 : -4 < t := by rw [ht]; exact Int.lt_tmod_of_pos n (by decide)
  have t2 : t < 4 := by rw [ht]; exact Int.tmod_lt_of_pos n (by decide)
  obtain ⟨r, hr⟩ : ∃ r : Nat, (r : Int) = (t + 4).tmod 4 := ⟨((t + 4).tmod 4).toNat, by rw [Int.tmod_eq_emod_of_nonneg (by omega)]; omega⟩
  have r1 : r < 4 := by rw [Int.tmod_eq_emod_of_nonneg (by omega)] at hr; omega
  obtain ⟨K, hK⟩ : ∃ K, K = 15 + r := ⟨_, rfl⟩
  have k1 : IntKind.i64.wrap (t + 4) = t + 4 := by rw [IntKind.wrap_i64]; omega
  have k2 : IntKind.i64.wrap (15 + (r : Int)) = (K : Int) := by rw [IntKind.wrap_i64]; omega
  have ht' := ht.symm
  have hr' := hr.symm
  have K1 : 15 ≤ K := by omega
  have K2 : K ≤ 18 := by omega
  clear ht hr hK
  obtain ⟨i0, hi, hz0, hz1, hz2⟩ := info_parts (show (Try.prog.info? 27).map (fun i => (i.zero, i.size, i.bytes)) = some (some (.agg #[.int .i64 0, .int .i64 0, .int .i64 0, .int .i64 0, .slice none 0 0]), 5, 56) by kernel_rfl)
  obtain ⟨N, hN⟩ : ∃ N : Nat, N = 8192 := ⟨_, rfl⟩
  have n1 : N ≤ 10000 := by omega
  have HNN := Lib.hid hN
  have hNi : (8192 : Int) = (N : Int) := by omega
  have HNI := Lib.hid hNi
  clear hN hNi
  go_enter Try.func3, Try.ntmps3
  go_wp2_with (at_make; go_must (refine wpList_make_full _ rfl _ _ _ rfl w.heap.size 27 i0 _ 5 Try.underlying22 hi hz0 hz1 .i64 .i64 8192 8192 N rfl rfl HNI.out HNI.out (by rw [hz2]; omega) (by unfold maxLen; omega) (Nat.le_refl _) ?_); intro w1 hown hgr)
  rw [HNN.out] at hown
  have hone := OneRow.made (B := w.heap.size) (cap := 8192) hown
  have hb1 : Below w.heap.size w w1 := ⟨hgr.os, hgr.tape, hgr.output, hgr.size, fun k hk => hgr.block k hk (by simp)⟩
  obtain ⟨g, hg⟩ : ∃ g, g = w.heap.size := ⟨_, rfl⟩
  rw [← hg] at hone hb1 ⊢
  have HG := Lib.hid hg
  have HB1 := Lib.hid hb1
  clear hown hgr hb1 hi hz0 hz1 hz2 hg
  go_loopg [11, 4] N (fun gk v11 _ wx => ∃ i : Nat, i ≤ N ∧ gk = N - i ∧ v11 = .int .i64 i ∧ OneRow wx g i ∧ Below g w wx)
  case atStart => exact ⟨0, by omega, rfl, rfl, hone, HB1.out⟩
  case round =>
    clear hone HB1
    obtain ⟨i, i1, i2, rfl, hone, hb⟩ := hrel
    have I2 := Lib.hid i2
    have HB := Lib.hid hb
    clear i2 hb
    by_cases hi : i < N
    · obtain ⟨c0, c1, hn⟩ := hone.step (by rw [HNN.out] at hi; exact hi)
      obtain ⟨ov, hov⟩ : ∃ ov, ov = oneV i (i * 5) := ⟨_, rfl⟩
      rw [← hov] at c0
      have HN := Lib.hid hn
      have HB2 := Lib.hid (below_set HB.out (Nat.le_refl g) (i * 5) (.int .i64 2))
      clear hone hn HB hov
      go_wp2
      go_roundg (N - (i + 1))
      case measure => rw [I2.out]; omega
      case rel => exact ⟨i + 1, hi, rfl, by go_num, HN.out, HB2.out⟩
    · obtain rfl : N = i := by omega
      obtain ⟨B, hB⟩ : ∃ B, B = wr.heap.size := ⟨_, rfl⟩
      have HBW := Lib.hid hB
      have hgB : g < B := by rw [hB]; obtain ⟨cs, h1, _⟩ := hone; exact lt_of_heap h1
      have HONE := Lib.hid hone
      clear hone I2 hi hB i1
      go_wp2_with fail
      go_loopg [24, 5] K (fun gk v24 v5 wx => ∃ (i : Nat) (v : Value), i ≤ K ∧ gk = K - i ∧ v24 = .int .i64 i ∧ v5 = v ∧ wx.ownsRow B 22 1 v i (List.replicate i (oneSN g N)) ∧ OneRow wx g N ∧ B ≤ wx.heap.size ∧ Below g w wx)
      case atStart => exact ⟨0, .slice none 0 0, Nat.zero_le _, rfl, rfl, rfl, ⟨rfl, Or.inl ⟨rfl, rfl⟩⟩, HONE.out, by rw [HBW.out]; exact Nat.le_refl _, HB.out⟩
      case round =>
        clear HONE HB HBW
        obtain ⟨i, v, i1, i2, rfl, rfl, hown, hone, hBx, hb⟩ := hrel
        have I2 := Lib.hid i2
        have HONE := Lib.hid hone
        have HB := Lib.hid hb
        clear i2 hb hone
        by_cases hi : i < K
        · go_wp2_with (at_builtin; go_must (refine wpList_append_new rfl _ _ 28 rfl B 22 (.slice none 0 0) 1 24 Try.underlying28 (by kernel_rfl) rfl (by decide) _ _ _ rfl hown _ _ rfl rfl rfl (by omega) (by decide) (by omega) ?_))
          intro g' cap' w' hown' hg' hor' hlt'
          have H1 := Lib.hid (show OneRow w' g N from by
            obtain ⟨cs, h1, h2, h3⟩ := HONE.out
            exact ⟨cs, (hg'.block g (lt_of_heap h1) (fun h => by have := (own_lt hown g h.symm).1; omega)).trans h1, h2, h3⟩)
          have H2 := Lib.hid (show w'.ownsRow B 22 1 _ (i + 1) (List.replicate (i + 1) (oneSN g N)) from by rw [List.replicate_succ']; exact hown')
          have H3 := Lib.hid (HB.out.grown hg' (by omega) (fun r h => by have := (own_lt hown r h).1; omega))
          have hBx2 := Nat.le_trans hBx hg'.size
          clear hown' hg' hor' hlt' hown HONE HB
          go_wp2
          go_roundg (K - (i + 1))
          case measure => rw [I2.out]; omega
          case rel => exact ⟨i + 1, _, hi, rfl, by go_num, rfl, H2.out, H1.out, hBx2, H3.out⟩
        · obtain rfl : K = i := by omega
          rw [HNN.out] at HONE
          have hown2 := hown
          unfold oneSN at hown2
          rw [HNN.out] at hown2
          obtain ⟨a5, c5, rfl, hsl⟩ := rows_at hown2 HONE.out (by omega)
          have htot := tot_rep K
          have hlen : (List.replicate K killL).length = K := List.length_replicate
          have hsm : ∀ c ∈ List.replicate K killL, ∀ z ∈ c, z.comps.length ≤ 1048576 ∧ ∀ q ∈ z.comps, q.vals.length ≤ 1048576 := by
            intro c hc z hz
            rw [List.eq_of_mem_replicate hc] at hz
            rw [List.eq_of_mem_replicate hz]
            exact ⟨by decide, fun q hq => by cases hq⟩
          have HSL := Lib.hid hsl
          have HTOT := Lib.hid htot
          have HLEN := Lib.hid hlen
          have HSM := Lib.hid hsm
          have hBW : Below w.heap.size w wr := by rw [← HG.out]; exact HB.out
          have HBW := Lib.hid hBW
          clear hsl htot hlen hsm hown hown2 HONE I2 hBW HB
          by_cases hbig : 16 < K
          · have CJ := Lib.hid (join_large (List.replicate K killL) a5 K c5 HLEN.out (by rw [HTOT.out]; omega) (by omega) (by rw [HTOT.out]; omega) wr HSL.out)
            have CC := Lib.hid (fun w' (hb : Below wr.heap.size wr w') => concat_cmds (List.replicate K killL) a5 K c5 HLEN.out (by omega) (by rw [HTOT.out]; omega) w' (HSL.out.below CmdsAt.abides hb))
            have h5 : decide ((16 : Int) < (K : Int)) = true := decide_eq_true (by omega)
            go_wp2_with fail
            refine CJ.out.mono ?_
            rintro e w6 ⟨rfl, rfl⟩
            clear CJ
            go_wp2_with fail
            refine (PW.out _).mono ?_
            rintro e w7 ⟨⟨v7, rfl, hin⟩, hb7⟩
            clear PW
            go_wp2_with fail
            refine (CC.out _ hb7).mono ?_
            rintro e w8 ⟨a8, c8, rfl, _, hb8⟩
            rw [HTOT.out]
            have CK := Lib.hid (cmd_Check_large v7 a8 (K * 8192) c8 (by omega) w8 (hin.below hb8))
            have hb78 := bt hb7 hb8
            clear CC hin hb7 hb8
            go_wp2_with fail
            refine CK.out.mono ?_
            rintro e w9 ⟨rfl, hb9⟩
            have hbe := bt HBW.out (bt hb78 hb9)
            clear hb78 hb9 CK HBW
            go_wp2
            go_ret
            exact ⟨by simp, hbe⟩
          · have CJ := Lib.hid (join_small (List.replicate K killL) a5 K c5 HLEN.out (by omega) (by rw [HTOT.out]; omega) HSM.out wr HSL.out)
            have h5 : decide ((16 : Int) < (K : Int)) = false := decide_eq_false (by omega)
            rw [HTOT.out] at CJ
            obtain ⟨M, hM⟩ : ∃ M, M = K * 8192 := ⟨_, rfl⟩
            rw [← hM] at CJ
            have HMM := Lib.hid hM
            clear hM
            go_wp2_with fail
            refine CJ.out.mono ?_
            rintro e w6 ⟨a6, c6, rfl, _, hb6⟩
            have hbe := bt HBW.out hb6
            clear CJ hb6 HBW
            go_wp2
            go_ret
            exact ⟨by simp; have := HMM.out; omega, hbe⟩
end Go.Proofs.Ytfckbkhnelgjbaa
