/- Package sets: All, its iterator, Len. -/
import Derived.RangeFuncNested
import Derived.RangeFuncBound
import Derived.RangeFuncCalls
import Derived.RangeFuncLeaves
import Derived.RangeFuncBox
import Derived.Shelf.Abstract
import Derived.Shelf.RegionOpen
import Derived.OwnWalkIn
import Derived.TacticsInMore
import Derived.LoopNIn
import Derived.LoopIn
import Derived.Test.YtlahmcbaiebapaaSetW
import Derived.Test.YtlahmcbaiebapaaRd
namespace Go.Proofs.Ytlahmcbaiebapaa
open Go.ChangeShapes Go.WideShapes Go.ChangeAt Go.RowKit Go.Mem Go.Sp
set_option linter.unusedVariables false
attribute [local go_sem] Oper.semAt_some

/-- The blocks from lo up to hi are kept. -/
def KeepB (lo hi : Nat) (w w2 : World) : Prop := w.heap.size ≤ w2.heap.size ∧ ∀ k, lo ≤ k → k < hi → w2.heap[k]? = w.heap[k]?
theorem KeepB.refl (lo hi : Nat) (w : World) : KeepB lo hi w w := ⟨Nat.le_refl _, fun _ _ _ => rfl⟩
theorem KeepB.trans {lo hi : Nat} {a b c : World} (h : KeepB lo hi a b) (h2 : KeepB lo hi b c) : KeepB lo hi a c := ⟨Nat.le_trans h.1 h2.1, fun k k1 k2 => (h2.2 k k1 k2).trans (h.2 k k1 k2)⟩
theorem KeepB.of_below {lo hi n : Nat} {a b : World} (h : Below n a b) (hn : hi ≤ n) : KeepB lo hi a b := ⟨h.size, fun k _ k2 => h.block k (by omega)⟩
theorem KeepB.set {lo hi : Nat} (w : World) {p : Addr} (hp : p.block < lo ∨ hi ≤ p.block) (v : Value) : KeepB lo hi w (w.setCell p v) := ⟨by simp, fun k k1 k2 => Below.heap_setCell w p v k (by omega)⟩
theorem KeepB.put {lo hi : Nat} {w : World} (hn : hi ≤ w.heap.size) (W : World) (l : Nat) (o o' : Obj) (hl : w.heap.size ≤ l) (h : W.heap[l]? = some o) (_ : o.isCells = false) (_ : o.isWalk = false) : KeepB lo hi W (W.putObj l o') := by
  have hb := belowK_b (n₀ := w.heap.size) (w := w) (Nat.le_refl _) W l o o' hl h ‹_› ‹_›
  exact .of_below hb hn
theorem SetAt.keep {lo hi : Nat} {w w2 : World} {a : Option Addr} {A : List Nat} (h : SetAt w a A) (ha : ∀ x, a = some x → lo ≤ x.block ∧ x.block < hi) (hb : KeepB lo hi w w2) : SetAt w2 a A := by
  intro hn
  obtain ⟨x, rfl, hx, hc⟩ := h hn
  obtain ⟨h1, h2⟩ := ha x rfl
  exact ⟨x, rfl, Nat.lt_of_lt_of_le hx hb.1, fun i hi => (cell_same (w := w) (w2 := w2) (p := x.add i) (by rw [block_of_add]; exact hb.2 _ h1 h2)).trans (hc i hi)⟩
theorem bit_at {A : List Nat} {k i : Nat} (hk : k < 64) (hi : i < 64) : bit A (64 * k + i) = (A.getD k 0).testBit i := by
  unfold bit wd
  rw [show (64 * k + i) / 64 = k by omega, show (64 * k + i) % 64 = i by omega, if_pos hk]
theorem upto_rest {A : List Nat} {k i : Nat} (hk : k < 64) (hi : i ≤ 64) (h : (A.getD k 0) / 2 ^ i = 0) : upto A (64 * (k + 1)) = upto A (64 * k + i) := by
  refine upto_to (by omega) fun j h1 h2 => ?_
  obtain ⟨d, rfl⟩ : ∃ d, j = 64 * k + d := ⟨j - 64 * k, by omega⟩
  rw [bit_at hk (by omega)]
  have hx : A.getD k 0 < 2 ^ i := by
    rcases Nat.div_eq_zero_iff.1 h with h | h
    · have := Nat.two_pow_pos i; omega
    · exact h
  exact Nat.testBit_lt_two_pow (Nat.lt_of_lt_of_le hx (Nat.pow_le_pow_right (by omega) (by omega)))
theorem upto_pre {A : List Nat} {m : Nat} (h : m ≤ 4096) : upto A m <+: els A := by
  have : ∀ d, upto A m <+: upto A (m + d) := by
    intro d
    induction d with
    | zero => exact List.prefix_refl _
    | succ d ih =>
      rw [← Nat.add_assoc, upto_succ]
      exact ih.trans (List.prefix_append _ _)
  have h2 := this (4096 - m)
  rwa [show m + (4096 - m) = 4096 by omega] at h2

set_option maxRecDepth 100000 in
set_option maxHeartbeats 4000000 in
theorem all2_in (n : Nat) (hn : 1 ≤ n) (l Bs lo hi : Nat) (r : Option Addr) (m c : Nat) (A : List Nat) (hm : A.length = m) (h64 : m ≤ 64) (hw : Words A) (J Jx : List Nat → World → Prop)
    (hY : ∀ (pre : List Nat) (x : Nat) (W : World), J pre W → pre.length < 4096 → YieldAt Fence.wide (n - 1) Try.prog l #[.int .i64 (x : Int)] W fun e W' => (e = .returned (.bool true) ∧ J (pre ++ [x]) W' ∧ KeepB lo hi W W') ∨ (e = .returned (.bool false) ∧ Jx (pre ++ [x]) W'))
    (W : World) (hBs : W.cell? ⟨Bs, 0, none⟩ = some (.slice r m c)) (hr : ∀ x, r = some x → lo ≤ x.block ∧ x.block < hi) (hz : SetAt W r A) (h0 : J [] W) :
    CallsIn Fence.wide n Try.prog 77 #[.func (.yield l) #[] #[], .pointer (some ⟨Bs, 0, none⟩)] W fun e W' => (∃ v, e = .returned v) ∧ ((∃ ys, ys = els A ∧ J ys W') ∨ (∃ pre, pre <+: els A ∧ Jx pre W')) := by
  have HM := Lib.hid hm
  have HW := Lib.hid hw
  have HR := Lib.hid hr
  have HZ := Lib.hid hz
  clear hm hw hr hz
  refine callsIn_of_wp Try.func77 rfl trivial ?_ rfl
  simp only [Try.ntmps77, List.size_toArray, List.length_cons, List.length_nil, Nat.reduceAdd, Nat.reduceSub, Array.replicate_succ, Array.replicate_zero, List.push_toArray, List.append_toArray, List.nil_append, List.cons_append]
  gi_wp2
  gi_loopw [3, 4, 5, 8] (fun v3 v4 v5 vi wr => ∃ k : Nat, k ≤ m ∧ vi = .int .i64 k ∧ J (upto A (64 * k)) wr ∧ KeepB lo hi W wr)
    (fun _ _ _ vi _ => m - (intOf vi).toNat)
  case atStart => exact ⟨0, Nat.zero_le _, rfl, h0, KeepB.refl _ _ _⟩
  case round =>
    obtain ⟨k, hk, rfl, hJ, hB⟩ := hrel
    by_cases hlt : k < m
    · obtain ⟨x, rfl, hx, hc⟩ := (HZ.out.keep HR.out hB).read (k := k) (by rw [HM.out]; exact hlt)
      obtain ⟨X, hX⟩ : ∃ X, X = A.getD k 0 := ⟨_, rfl⟩
      rw [← hX] at hc
      have hX64 : X < 18446744073709551616 := by rw [hX]; exact HW.out.getD k
      have HX := Lib.hid hX
      have k0 : (0 : Int) ≤ (k : Int) := by omega
      have k1 : (k : Int) < (m : Int) := by omega
      have hk64 : k < 64 := by omega
      clear hX
      gi_wp2
      obtain ⟨wo, rfl⟩ : ∃ wo : World, wo = wr := ⟨_, rfl⟩
      gi_loopw [4, 5] (fun v4 v5 wr => ∃ i Y : Nat, i ≤ 64 ∧ v5 = .int .i64 i ∧ v4 = .int .u64 Y ∧ Y = X / 2 ^ i ∧ J (upto A (64 * k + i)) wr ∧ KeepB lo hi W wr)
        (fun _ v5 _ => 64 - (intOf v5).toNat)
      case atStart => exact ⟨0, X, by omega, rfl, rfl, by simp, hJ, hB⟩
      case round =>
        obtain ⟨i, Y, hi, rfl, rfl, hYX, hJ2, hB2⟩ := hrel
        have HYX := Lib.hid hYX
        have hY64 : Y < 18446744073709551616 := by rw [hYX]; exact Nat.lt_of_le_of_lt (Nat.div_le_self _ _) hX64
        by_cases hy0 : Y = 0
        · subst hy0
          have HU := Lib.hid (upto_rest (A := A) hk64 hi (by rw [← HX.out]; exact hYX.symm))
          clear hYX
          have hB3 := Lib.hid hB2
          gi_wp2
          go_roundw
          case rel => exact ⟨k + 1, hlt, by go_num, by rw [HU.out]; exact hJ2, hB3.out⟩
          case measure => simp [intOf]; omega
        · have hi64 : i < 64 := by
            rcases Nat.lt_or_ge i 64 with h | h
            · exact h
            · exfalso
              have h2 := two64 h
              rw [hYX] at hy0
              exact hy0 (Nat.div_eq_of_lt (by omega))
          have ht0 : ((Y : Int) != 0) = true := by simp; omega
          have hbit := bit_at (A := A) hk64 hi64
          rw [← HX.out] at hbit
          have hand := W64.bits_and_u64 Y 1 hY64 (by omega)
          rw [Nat.and_one_is_mod, hYX, bit_num, ← hYX, ← hbit] at hand
          have HY2 := Lib.hid (show Y / 2 = X / 2 ^ (i + 1) by rw [hYX, Nat.div_div_eq_div_mul, Nat.pow_succ])
          obtain ⟨N, hN⟩ : ∃ N, N = 64 * k + i := ⟨_, rfl⟩
          obtain ⟨K6, hK6⟩ : ∃ K6, K6 = 64 * k := ⟨_, rfl⟩
          have e1 : 64 * (k : Int) = (K6 : Int) := by omega
          have e2 : (K6 : Int) + (i : Int) = (N : Int) := by omega
          have hN4 : N < 4096 := by omega
          rw [← hN] at hJ2 hbit hand
          have HN := Lib.hid hN
          have HNL := Lib.hid (upto_length A N (by omega))
          have e3 : (Y : Int) / 2 = ((Y / 2 : Nat) : Int) := by simp
          obtain ⟨Z, hZ⟩ : ∃ Z, Z = Y / 2 := ⟨_, rfl⟩
          rw [← hZ] at e3
          have HY3 := Lib.hid (show Z = X / 2 ^ (i + 1) by rw [hZ]; exact HY2.out)
          clear hYX hy0 hN hK6 hZ HY2
          cases hbb : bit A N with
          | false =>
            rw [hbb] at hand
            have hand2 : bits .and .u64 (Y : Int) 1 = 0 := hand
            have HU := Lib.hid (show upto A (64 * k + (i + 1)) = upto A N by rw [← Nat.add_assoc, ← HN.out, upto_succ, hbb]; simp)
            clear hand hbb hbit
            gi_wp2
            refine ⟨fun _ h => (by cases h), ?_⟩
            gi_wp2
            go_roundw
            case rel => exact ⟨i + 1, Z, hi64, by go_num, rfl, HY3.out, by rw [HU.out]; exact hJ2, hB2⟩
            case measure => simp [intOf]; omega
          | true =>
            rw [hbb] at hand
            have hand2 : bits .and .u64 (Y : Int) 1 = 1 := hand
            have HU := Lib.hid (show upto A (64 * k + (i + 1)) = upto A N ++ [N] by rw [← Nat.add_assoc, ← HN.out, upto_succ, hbb]; simp)
            clear hand hbb hbit
            obtain ⟨fn, tmps, assign, body, hy, hR⟩ := hY _ N wr hJ2 (Nat.lt_of_le_of_lt HNL.out hN4)
            gi_wp2
            refine hR.mono ?_
            rintro e W3 (⟨rfl, hJ3, hk3⟩ | ⟨rfl, hJx3⟩)
            · rw [← HU.out] at hJ3
              gi_wp2
              go_roundw
              case rel => exact ⟨i + 1, Z, hi64, by go_num, rfl, HY3.out, hJ3, hB2.trans hk3⟩
              case measure => simp [intOf]; omega
            · gi_wp2
              refine bodyPost_ret (results_none rfl _ _ _) rfl ?_
              exact ⟨⟨_, rfl⟩, .inr ⟨_, by rw [← HU.out]; exact upto_pre (by omega), hJx3⟩⟩
    · obtain rfl : k = m := by omega
      have HU := Lib.hid (upto_end A (64 * k) (by omega) (by rw [HM.out]; omega))
      rw [HU.out] at hJ
      gi_wp2
      go_end0
      exact ⟨⟨_, rfl⟩, .inl ⟨_, rfl, hJ⟩⟩
theorem join_nil_els {A : List Nat} (h : Words A) : els (joinN (fun x _ => x) A []) = els A := by
  unfold els upto
  exact List.filter_congr fun i _ => bit_join bw_fst h canon_nil.2.1 i
set_option maxHeartbeats 2000000 in
/-- s.All(): a closure over a box that holds the set, its words beyond the 64th and its last zeros struck. -/
theorem sets_All (A : List Nat) (a : Option Addr) (n c : Nat) (hn : A.length = n) (h1 : n ≤ 17592186044416) (hw : Words A) (W : World) (hz : SetAt W a A) :
    Calls Try.prog 18 #[.slice a n c] W fun e w' => e = .returned (.func (.func 77) #[] #[.pointer (some ⟨W.heap.size, 0, none⟩)]) ∧ (∃ r m cr, (joinN (fun x _ => x) A []).length = m ∧ w'.cell? ⟨W.heap.size, 0, none⟩ = some (.slice r m cr) ∧ SetAt w' r (joinN (fun x _ => x) A []) ∧ (∀ x, r = some x → W.heap.size ≤ x.block ∧ x.block < w'.heap.size)) ∧ W.heap.size < w'.heap.size ∧ Below W.heap.size W w' := by
  have hb0 : Below W.heap.size W (W.alloc (.cells #[.slice a n c] 25)) := (Below.refl _ _).alloc (Nat.le_refl _) _
  have HJ := Lib.hid (sets_join _ _ _ en_fst op_fst bw_fst A [] a none n 0 c 0 hn rfl h1 (by omega) hw canon_nil.2.1 _ (hz.below hb0) (SetAt.nil _ none))
  have HB0 := Lib.hid hb0
  have HR0 := Lib.hid (heap_alloc_new W (.cells #[.slice a n c] 25))
  clear hn hz hb0 hw
  go_enter Try.func18, Try.ntmps18
  go_wp2_with fail
  refine HJ.out.mono ?_
  rintro e w1 ⟨r, cr, rfl, h2, h3, h4, _⟩
  have H4 := Lib.hid h4
  have hr1 := heap_below HR0.out h3
  have hc1 := cell_of_row _ _ 0 _ _ _ hr1
  have hf1 := Mem.frozen_of_row hr1 0
  have HR1 := Lib.hid hr1
  have H2 := Lib.hid h2
  have HB := Lib.hid (bt HB0.out h3)
  obtain ⟨m, hm⟩ : ∃ m, m = (joinN (fun x _ => x) A []).length := ⟨_, rfl⟩
  rw [← hm]
  have HM := Lib.hid hm
  clear h2 h3 h4 hr1 hm HJ HB0 HR0
  go_wp2_with fail
  go_ret
  have hlt := lt_of_heap HR1.out
  have hs : ∀ k, k ≠ W.heap.size → (w1.setCell ⟨W.heap.size, 0, none⟩ (.slice r m cr)).heap[k]? = w1.heap[k]? := fun k hk => Below.heap_setCell w1 ⟨W.heap.size, 0, none⟩ _ k hk
  refine ⟨rfl, ?_, by rw [World.size_setCell]; exact hlt, HB.out.setCell (p := ⟨W.heap.size, 0, none⟩) (Nat.le_refl _) _⟩
  refine ⟨r, m, cr, HM.out.symm, ?_, ?_, fun x hx => by rw [World.size_setCell]; have := (H4.out x hx).1; rw [World.size_alloc] at this; exact ⟨by omega, (H4.out x hx).2⟩⟩
  · have h := Mem.heap_set HR1.out 0 (.slice r m cr)
    exact cell_of_row _ _ 0 _ _ _ h
  · intro hn0
    obtain ⟨x, rfl, hx, hc⟩ := H2.out hn0
    refine ⟨x, rfl, by rw [World.size_setCell]; exact hx, fun i hi => ?_⟩
    have hne : x.block ≠ W.heap.size := by have := (H4.out x rfl).1; rw [World.size_alloc] at this; omega
    exact (cell_same (w := w1) (p := x.add i) (by rw [block_of_add]; exact hs _ hne)).trans (hc i hi)
theorem list_prefix_length {A B : List Nat} (h : A <+: B) : A.length ≤ B.length := h.length_le
/-- The closure that All hands back goes through the elements, in their order. -/
theorem all_stops (n : Nat) (hn : 1 ≤ n) (Bs lo hi : Nat) (r : Option Addr) (m c : Nat) (A : List Nat) (hm : A.length = m) (h64 : m ≤ 64) (hw : Words A) (w : World) (hBs : Bs < w.heap.size) 
    (hc : w.cell? ⟨Bs, 0, none⟩ = some (.slice r m c)) (hr : ∀ x, r = some x → lo ≤ x.block ∧ x.block < hi) (hz : SetAt w r A) :
    SeqStopsK Fence.wide n Try.prog 77 #[.pointer (some ⟨Bs, 0, none⟩)] (fun x : Nat => #[Value.int .i64 (x : Int)]) (KeepB lo hi) (fun ys => ys = els A) (fun pre => pre <+: els A) 4096 w := fun l J Jx W hW _ _ hY h0 =>
  all2_in n hn l Bs lo hi r m c A hm h64 hw J Jx hY W ((hW.cell (p := ⟨Bs, 0, none⟩) hBs).trans hc) hr (hz.below hW) h0
set_option maxRecDepth 100000 in
set_option maxHeartbeats 4000000 in
theorem sets_Len (A : List Nat) (a : Option Addr) (n c : Nat) (hn : A.length = n) (h1 : n ≤ 17592186044416) (hw : Words A) (w : World) (hz : SetAt w a A) :
    Calls Try.prog 20 #[.slice a n c] w fun e w' => e = .returned (.int .i64 ((els A).length : Nat)) ∧ Below w.heap.size w w' := by
  have HW := Lib.hid hw
  have HE := Lib.hid (join_nil_els hw)
  have HC := Lib.hid (joinN_canon bw_fst hw canon_nil.2.1)
  have hb0 : Below w.heap.size w (w.alloc (.cells #[.int .i64 0] 3)) := (Below.refl _ _).alloc (Nat.le_refl _) _
  have CA := Lib.hid (sets_All A a n c hn h1 hw _ (hz.below hb0))
  have HB0 := Lib.hid hb0
  have HB1 := Lib.hid (Boxed.new w 3 (.int .i64 0))
  obtain ⟨J, hJ⟩ : ∃ J, J = joinN (fun x _ => x) A [] := ⟨_, rfl⟩
  rw [← hJ] at HE HC CA
  rw [← HE.out]
  clear hn hz hw hb0 hJ
  refine (callsIn_wide (n := 3)).1 (callsIn_of_wp_marks Try.func20 rfl trivial ?_ rfl)
  refine wpIn_wide.2 ?_
  simp only [Try.ntmps20, List.size_toArray, List.length_cons, List.length_nil, Nat.reduceAdd, Nat.reduceSub, Array.replicate_succ, Array.replicate_zero, List.push_toArray, List.append_toArray, List.nil_append, List.cons_append]
  go_wp2_with fail
  refine CA.out.mono ?_
  rintro e w1 ⟨rfl, ⟨r, m, cr, h2, h3, h4, h5⟩, h6, h7⟩
  go_wp2_with fail
  rw [World.size_alloc] at h3 h5 h6
  have HB2 := Lib.hid (HB0.out.trans (h7.mono (by rw [World.size_alloc]; omega)))
  have HB3 := Lib.hid (show Boxed w1 w.heap.size 3 (.int .i64 0) from (h7.block _ (by rw [World.size_alloc]; omega)).trans HB1.out)
  refine (wpIn_wide (n := 3)).1 (wpIn_rangeFunc_ownF rfl (by omega) (gf := 77) (lb := #[.pointer (some ⟨w.heap.size + 1, 0, none⟩)]) rfl trivial (enters_of Try.func77 (by kernel_rfl) rfl)
    (all_stops (3 - 1) (by omega) (w.heap.size + 1) (w.heap.size + 1) w1.heap.size r m cr J h2 (by have := HC.out.1; omega) HC.out.2.1 w1 h6 h3 h5 h4) KeepB.trans (KeepB.put (Nat.le_refl _)) (Below.refl _ _) (fun _ => rfl)
    (fun pre W => (W.cell? ⟨w.heap.size, 0, none⟩ = some (.int .i64 (pre.length : Nat)) ∧ W.frozen? ⟨w.heap.size, 0, none⟩ = false) ∧ Below w.heap.size w W)
    (fun _ _ _ => False)
    (OwnFrom.and (Own.from (fun s A B row hs hg hr => ⟨cell_kept hs.1 hg hr, (frozen_kept hs.1 hg hr).trans hs.2⟩) _) (ownFrom_below (Nat.le_refl _) (by omega)))
    (fun _ _ _ _ _ hs _ _ => hs)
    ⟨⟨HB3.out.cell, HB3.out.frozen⟩, HB2.out⟩
    (fun x => { tmps := #[.slice a n c, undef, .int .i64 0, .pointer (some ⟨w.heap.size, 0, none⟩), .slice a n c, .func (.func 77) #[] #[.pointer (some ⟨w.heap.size + 1, 0, none⟩)], .int .i64 (x : Int), undef, undef, undef], defers := [] }) ?assign ?body ?done ?stop)
  case assign =>
    intro l x W K hK
    gi_wp2
    simpa using hK
  case body =>
    rintro l pre x W ⟨⟨hc, hf⟩, hB⟩ hlt
    gi_wp2
    have e : (((pre ++ [x]).length : Nat) : Int) = (pre.length : Int) + 1 := by simp
    exact ⟨KeepsOthers.setCell _ _ _, KeepB.set _ (.inl (by simp)) _, ⟨by rw [e]; exact World.cell?_setCell_same' _ _ _ (by rw [hc]; rfl), by rw [World.frozen?_setCell]; exact hf⟩, hB.setCell (p := ⟨w.heap.size, 0, none⟩) (Nat.le_refl _) _⟩
  case done =>
    rintro D ys W hD rfl ⟨⟨hc, _⟩, hB⟩ hK
    go_wp2_with fail
    refine ⟨by simp, .inl ⟨_, _, rfl, run_takeDeferred hK, ?_⟩⟩
    exact ⟨_, results_tmp rfl _ _ _, rfl, hB.trans (belowK_b (w := w) (Nat.le_refl _) W D _ _ (by omega) hK rfl rfl)⟩
  case stop =>
    rintro D c pre W _ _ h _
    exact h.elim
end Go.Proofs.Ytlahmcbaiebapaa
