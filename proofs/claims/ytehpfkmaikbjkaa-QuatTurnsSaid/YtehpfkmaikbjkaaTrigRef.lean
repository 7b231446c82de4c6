/- Sines and cosines: the reference's; the statement TrigTells' walk. -/
import Derived.Test.YtehpfkmaikbjkaaTrig
import Derived.Deep.DeepMust
import Derived.Great.BuildSlice
namespace Go.Proofs.Ytehpfkmaikbjkaa
open Go.ChangeShapes Go.WideShapes Go.ChangeAt Go.RowKit Go.Mem

def dif : List Int := [1608, 1608, 1605, 1603, 1598, 1594, 1588, 1581, 1574, 1565, 1555, 1545, 1533, 1521, 1508, 1494,
  1478, 1462, 1446, 1427, 1410, 1389, 1370, 1348, 1326, 1304, 1280, 1256, 1230, 1205, 1179, 1151,
  1123, 1095, 1065, 1036, 1005, 974, 942, 910, 877, 844, 810, 776, 740, 706, 670, 633,
  598, 560, 523, 486, 448, 410, 372, 333, 294, 256, 216, 177, 138, 99, 59, 20]
def difA : Array Value := (dif.map fun n => .int .i64 n).toArray
def df (k : Nat) : Int := dif.getD k 0
theorem difA_get (k : Nat) (h : k < 64) : difA[k]? = some (.int .i64 (df k)) := by
  have hs : dif.length = 64 := by decide +kernel
  simp [difA, df, List.getElem?_eq_getElem (show k < dif.length by omega)]
theorem df_next (k : Nat) (h : k < 64) : tb (k + 1) = tb k + df k ∧ 0 ≤ df k ∧ df k ≤ 65536 := by
  have h : ∀ k : Fin 64, tb (k + 1) = tb k + df k ∧ 0 ≤ df k ∧ df k ≤ 65536 := by decide +kernel
  exact h ⟨k, by assumption⟩
def tbs (k : Nat) : List Value := (List.range k).map fun j => .int .i64 (tb j)
theorem tbs_succ (k : Nat) : tbs (k + 1) = tbs k ++ [.int .i64 (tb k)] := by simp [tbs, List.range_succ]
theorem tbs_get (n k : Nat) (h : k < n) : (tbs n)[k]? = some (.int .i64 (tb k)) := by simp [tbs, h]

set_option maxRecDepth 100000 in
set_option maxHeartbeats 1000000 in
theorem ref_sines (w : World) : Calls Try.prog 66 #[] w fun e w' => ∃ g cap, e = .returned (.slice (some ⟨g, 0, none⟩) 65 cap) ∧ (∀ k : Nat, k < 65 → w'.cell? ⟨g, k, none⟩ = some (.int .i64 (tb k))) ∧ Below w.heap.size w w' := by
  go_enter Try.func66, Try.ntmps66
  go_wp2_with (refine wpList_buildFlatAt rfl _ _ 64 _ rfl .i64 dif _ rfl _ rfl Try.underlying38 (by kernel_rfl) (by kernel_rfl) (by decide +kernel) (by decide) (by decide) (by kernel_rfl) ?_)
  go_loopw [1, 3, 7] (fun v _ i wr => ∃ (k g cap : Nat), k ≤ 64 ∧ i = .int .i64 k ∧ v = .slice (some ⟨g, 0, none⟩) (k + 1) cap ∧ wr.ownsRow w.heap.size 3 1 (.slice (some ⟨g, 0, none⟩) (k + 1) cap) (k + 1) (tbs (k + 1)) ∧
      wr.heap[w.heap.size + 1]? = some (.cells difA 3 (0, 0)) ∧ g ≠ w.heap.size + 1 ∧ Below w.heap.size w wr ∧ w.heap.size + 1 < wr.heap.size)
    (fun _ _ i _ => 64 - (intOf i).toNat)
  case atStart =>
    refine ⟨0, w.heap.size, 1, by omega, rfl, rfl, ?_, ?_, by omega, ((Below.refl _ _).alloc (Nat.le_refl _) _).alloc (by simp) _, by simp⟩
    · exact (World.ownsRow_lit w #[.int .i64 0] 1 (Nat.le_refl _) (by unfold maxLen; omega) rfl).alloc _
    · exact heap_alloc2_new _ _ _
  case round =>
    obtain ⟨k, g, cap, hk, rfl, rfl, hown, hd, hne, hb, hsz⟩ := hrel
    by_cases hlt : k < 64
    · have hc1 : wr.cell? ⟨w.heap.size + 1, k, none⟩ = some (.int .i64 (df k)) := by rw [cell_of_row wr _ _ _ _ _ hd]; exact difA_get k hlt
      have hc2 : wr.cell? ⟨g, k, none⟩ = some (.int .i64 (tb k)) := by rw [hown.cellAt k (by omega)]; exact tbs_get _ _ (by omega)
      have hn := df_next k hlt
      have hm := tb_mono k
      have HN := Lib.hid hn.1
      have hn2 := hn.2
      clear hn
      go_wp2_with (at_builtin; go_must (refine wpList_append_new rfl _ _ 38 rfl w.heap.size 3 (.int .i64 0) 1 8 Try.underlying38 (by kernel_rfl) rfl (by decide) _ _ _ rfl hown _ _ rfl rfl rfl (by omega) (by decide) hb.size ?_))
      intro g' cap' w' hown' hg hor hlt'
      have hd' : w'.heap[w.heap.size + 1]? = some (.cells difA 3 (0, 0)) := (hg.block _ hsz (by simp [Value.ownBlock]; omega)).trans hd
      have hb' : Below w.heap.size w w' := hb.grown hg hb.size (fun j hj => (hown.lt j hj).1)
      have hne' : g' ≠ w.heap.size + 1 := by
        rcases hor with h | h
        · simp [Value.ownBlock] at h; omega
        · omega
      have hsz' : w.heap.size + 1 < w'.heap.size := Nat.lt_of_lt_of_le hsz hg.size
      rw [show tbs (k + 1) ++ #[Value.int .i64 (tb k + df k)].toList = tbs (k + 1 + 1) from by rw [tbs_succ (k + 1), HN.out]] at hown'
      clear hc1 hc2 hd hg hor hown hb hsz hne
      go_wp2
      go_roundw
      case rel => exact ⟨k + 1, g', cap', by omega, by go_num, rfl, hown', hd', hne', hb', hsz'⟩
      case measure => simp [intOf]; omega
    · obtain rfl : k = 64 := by omega
      have hc : ∀ k : Nat, k < 65 → wr.cell? ⟨g, k, none⟩ = some (.int .i64 (tb k)) := fun k hk => by rw [hown.cellAt k (by omega)]; exact tbs_get _ _ (by omega)
      have HC := Lib.hid hc
      clear hc hd hown
      go_wp2
      go_ret
      exact ⟨g, cap, rfl, HC.out, hb⟩

theorem tmod_wrap (a n : Int) (hn : 0 < n) : (a.tmod n + n) % n = a % n ∧ -n < a.tmod n ∧ a.tmod n < n := by
  have h1 := Int.mul_tdiv_add_tmod a n
  refine ⟨?_, ?_, ?_⟩
  · have e : a.tmod n + n = a + n * (1 - a.tdiv n) := by rw [Int.mul_sub, Int.mul_one]; omega
    rw [e, Int.add_mul_emod_self_left]
  · have := Int.lt_tmod_of_pos a hn; omega
  · exact Int.tmod_lt_of_pos a hn

/-- What the interpolation at r reads, and the bounds of what it computes. -/
theorem lerp_facts (r : Int) (h0 : 0 ≤ r) (h1 : r < 16384) (w1 : World) (g : Nat) (hc : ∀ k : Nat, k < 65 → w1.cell? ⟨g, k, none⟩ = some (.int .i64 (tb k))) :
    ∃ x y : Int, Hid (sn r = (x * (256 - r % 256) + y * (r % 256) + 128) / 256) ∧ w1.cell? ⟨g, (r / 256).toNat, none⟩ = some (.int .i64 x) ∧ w1.cell? ⟨g, (r / 256 + 1).toNat, none⟩ = some (.int .i64 y) ∧
      0 ≤ x * (256 - r % 256) ∧ x * (256 - r % 256) ≤ 65536 * (256 - r % 256) ∧ 0 ≤ y * (r % 256) ∧ y * (r % 256) ≤ 65536 * (r % 256) := by
  have m1 := tb_mono (r / 256).toNat
  have m2 := tb_mono ((r / 256).toNat + 1)
  refine ⟨tb (r / 256).toNat, tb ((r / 256).toNat + 1), rfl, hc _ (by omega), ?_, ?_, ?_, ?_, ?_⟩
  · rw [show (r / 256 + 1).toNat = (r / 256).toNat + 1 by omega]; exact hc _ (by omega)
  · exact Int.mul_nonneg (by omega) (by omega)
  · exact Int.mul_le_mul_of_nonneg_right (by omega) (by omega)
  · exact Int.mul_nonneg (by omega) (by omega)
  · exact Int.mul_le_mul_of_nonneg_right (by omega) (by omega)

/-- Half a turn of the reference's sine: no call of itself. -/
theorem ref_Sine0 (a m : Int) (h0 : 0 ≤ m) (h1 : m < 32768) (ha : (a.tmod 65536 + 65536) % 65536 = m) (ha1 : -65536 < a.tmod 65536) (ha2 : a.tmod 65536 < 65536) (w : World) : Calls Try.prog 15 #[.int .i64 a] w fun e w' => e = .returned (.int .i64 (sine0 m)) ∧ Below w.heap.size w w' := by
  by_cases c : m < 16384
  · have hs : sine0 m = sn m := by simp [sine0, c]
    have HS := Lib.hid hs
    clear hs
    have b1 : 0 ≤ m / 256 := by omega
    have b2 : m / 256 < 65 := by omega
    have b3 : IntKind.i64.wrap (m / 256 + 1) = m / 256 + 1 := IntWalk.i64_in _ (by omega)
    have b4 : 0 ≤ m / 256 + 1 := by omega
    have b5 : m / 256 + 1 < 65 := by omega
    go_enter Try.func15, Try.ntmps15
    go_wp2_with (go_at_call 66; refine (ref_sines _).mono ?_; rintro e w1 ⟨g, cap, rfl, hc, hb⟩; obtain ⟨x, y, HX, c1, c2, p1, p2, p3, p4⟩ := lerp_facts m h0 c _ _ hc; clear hc)
    go_quiet (fail)
    go_wp2
    go_ret
    exact ⟨ret_i (by rw [HS.out, HX.out]), below_drewN hb _⟩
  by_cases c2 : m = 16384
  · have hs : sine0 m = tb 64 := by subst c2; rfl
    have HS := Lib.hid hs
    clear hs
    have hc' : (m == 16384) = true := by simp [c2]
    have e2 : (32768 - m == 16384) = true := by simp [c2]
    go_enter Try.func15, Try.ntmps15
    go_wp2_with (go_at_call 66; refine (ref_sines _).mono ?_; rintro e w1 ⟨g, cap, rfl, hc, hb⟩; have c1 := hc 64 (by omega); clear hc)
    go_ret
    exact ⟨ret_i HS.out.symm, hb⟩
  · have hs : sine0 m = sn (32768 - m) := by simp [sine0, c, h1]
    have HS := Lib.hid hs
    clear hs
    have b1 : 0 ≤ (32768 - m) / 256 := by omega
    have b2 : (32768 - m) / 256 < 65 := by omega
    have b3 : IntKind.i64.wrap ((32768 - m) / 256 + 1) = (32768 - m) / 256 + 1 := IntWalk.i64_in _ (by omega)
    have b4 : 0 ≤ (32768 - m) / 256 + 1 := by omega
    have b5 : (32768 - m) / 256 + 1 < 65 := by omega
    go_enter Try.func15, Try.ntmps15
    go_wp2_with (go_at_call 66; refine (ref_sines _).mono ?_; rintro e w1 ⟨g, cap, rfl, hc, hb⟩; obtain ⟨x, y, HX, c1, c2, p1, p2, p3, p4⟩ := lerp_facts (32768 - m) (by omega) (by omega) _ _ hc; clear hc)
    go_quiet (fail)
    go_wp2
    go_ret
    exact ⟨ret_i (by rw [HS.out, HX.out]), below_drewN hb _⟩

theorem ref_Sine (a : Int) (w : World) : Calls Try.prog 15 #[.int .i64 a] w fun e w' => e = .returned (.int .i64 (sine a)) ∧ Below w.heap.size w w' := by
  obtain ⟨ha, ha1, ha2⟩ := tmod_wrap a 65536 (by omega)
  have hs : sine a = sine0 (a % 65536) := rfl
  obtain ⟨m, hm⟩ : ∃ m, m = a % 65536 := ⟨_, rfl⟩
  rw [← hm] at ha hs
  have h0 : 0 ≤ m := by omega
  have h1 : m < 65536 := by omega
  rw [hs]
  clear hs hm
  by_cases c : m < 32768
  · exact ref_Sine0 a m h0 c ha ha1 ha2 w
  · have hs : sine0 m = - sine0 (m - 32768) := by
      unfold sine0
      by_cases c2 : m < 49152
      · rw [if_neg (by omega), if_neg c, if_pos c2, if_pos (by omega)]
      · rw [if_neg (by omega), if_neg c, if_neg c2, if_neg (by omega), if_pos (by omega), show 32768 - (m - 32768) = 65536 - m by omega]
    have hbd := sine0_bd (m - 32768)
    have HS := Lib.hid hs
    clear hs
    go_enter Try.func15, Try.ntmps15
    go_wp2_with (go_at_call 15; refine (ref_Sine0 _ (m - 32768) (by omega) (by omega) (by rw [Int.tmod_eq_emod_of_nonneg (by omega)]; omega) (by rw [Int.tmod_eq_emod_of_nonneg (by omega)]; omega) (by rw [Int.tmod_eq_emod_of_nonneg (by omega)]; omega) _).mono ?_; rintro e w1 ⟨rfl, hb1⟩)
    go_ret
    exact ⟨ret_i HS.out.symm, hb1⟩

theorem ref_Cosine (a : Int) (w : World) : Calls Try.prog 17 #[.int .i64 a] w fun e w' => e = .returned (.int .i64 (cosine a)) ∧ Below w.heap.size w w' := by
  obtain ⟨ha, ha1, ha2⟩ := tmod_wrap a 65536 (by omega)
  have hs : cosine a = sine (a % 65536 + 16384) := rfl
  obtain ⟨m, hm⟩ : ∃ m, m = a % 65536 := ⟨_, rfl⟩
  rw [← hm] at ha hs
  have h0 : 0 ≤ m := by omega
  have h1 : m < 65536 := by omega
  have HS := Lib.hid hs
  clear hs hm
  go_enter Try.func17, Try.ntmps17
  go_wp2_with (go_at_call 15; refine (ref_Sine _ _).mono ?_; rintro e w1 ⟨rfl, hb1⟩)
  go_ret
  exact ⟨ret_i HS.out.symm, hb1⟩

theorem law_TrigTells (a : Int) (w : World) : Calls Try.prog 4 #[.int .i64 a] w fun e w' => e = .returned (.bool true) ∧ Below w.heap.size w w' := by
  have h : sine 16384 = 65536 := by rfl
  have hB := Below.refl w.heap.size w
  go_enter Try.func4, Try.ntmps4
  go_wp2_with (first
    | (go_at_call 14; refine (trig_Sin _ _).mono ?_; rintro e w1 ⟨rfl, hb1⟩; have hB := bt hB hb1; clear hb1)
    | (go_at_call 15; refine (ref_Sine _ _).mono ?_; rintro e w1 ⟨rfl, hb1⟩; have hB := bt hB hb1; clear hb1)
    | (go_at_call 16; refine (trig_Cos _ _).mono ?_; rintro e w1 ⟨rfl, hb1⟩; have hB := bt hB hb1; clear hb1)
    | (go_at_call 17; refine (ref_Cosine _ _).mono ?_; rintro e w1 ⟨rfl, hb1⟩; have hB := bt hB hb1; clear hb1))
  go_ret
  exact ⟨rfl, hB⟩
end Go.Proofs.Ytehpfkmaikbjkaa
