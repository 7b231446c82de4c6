/- slices.Concat of lists of commands. -/
import Derived.Test.YtfckbkhnelgjbaaCmdJoin2
import Derived.Lib.AppendZeros
namespace Go.Proofs.Ytfckbkhnelgjbaa
open Go.ChangeShapes Go.WideShapes Go.ChangeAt Go.RowKit Go.Mem
set_option linter.unusedVariables false
/-- one command of a row, its components as they lie in a given world -/
def CmdCell0 (W : World) (cs : List Value) (i : Nat) (y : CmdV) : Prop := ∃ a c, cs[i * 5]? = some (.int .i64 y.dod) ∧ cs[i * 5 + 1]? = some (.int .i64 y.n) ∧ cs[i * 5 + 2]? = some (.int .i64 y.gen) ∧ cs[i * 5 + 3]? = some (.int .i64 y.kind) ∧ cs[i * 5 + 4]? = some (.slice a y.comps.length c) ∧ SlAt 2 CompAt W a y.comps
def Cells0 (W : World) (cs : List Value) (l : List CmdV) : Prop := cs.length = l.length * 5 ∧ (∀ u ∈ cs, u.oneCell' = true) ∧ ∀ i (h : i < l.length), CmdCell0 W cs i l[i]
theorem Cells0.append {W : World} {cs us : List Value} {l k : List CmdV} (h1 : Cells0 W cs l) (h2 : Cells0 W us k) : Cells0 W (cs ++ us) (l ++ k) := by
  obtain ⟨a1, a2, a3⟩ := h1
  obtain ⟨b1, b2, b3⟩ := h2
  refine ⟨by simp; omega, fun u hu => ?_, fun i hi => ?_⟩
  · rcases List.mem_append.1 hu with h | h
    · exact a2 u h
    · exact b2 u h
  · by_cases h : i < l.length
    · obtain ⟨a, c, e0, e1, e2, e3, e4, e5⟩ := a3 i h
      rw [List.getElem_append_left h]
      exact ⟨a, c, by rw [List.getElem?_append_left (by omega)]; exact e0, by rw [List.getElem?_append_left (by omega)]; exact e1, by rw [List.getElem?_append_left (by omega)]; exact e2, by rw [List.getElem?_append_left (by omega)]; exact e3, by rw [List.getElem?_append_left (by omega)]; exact e4, e5⟩
    · obtain ⟨a, c, e0, e1, e2, e3, e4, e5⟩ := b3 (i - l.length) (by simp at hi; omega)
      rw [List.getElem_append_right (by omega)]
      refine ⟨a, c, ?_, ?_, ?_, ?_, ?_, e5⟩
      · rw [List.getElem?_append_right (by omega), show i * 5 - cs.length = (i - l.length) * 5 by omega]; exact e0
      · rw [List.getElem?_append_right (by omega), show i * 5 + 1 - cs.length = (i - l.length) * 5 + 1 by omega]; exact e1
      · rw [List.getElem?_append_right (by omega), show i * 5 + 2 - cs.length = (i - l.length) * 5 + 2 by omega]; exact e2
      · rw [List.getElem?_append_right (by omega), show i * 5 + 3 - cs.length = (i - l.length) * 5 + 3 by omega]; exact e3
      · rw [List.getElem?_append_right (by omega), show i * 5 + 4 - cs.length = (i - l.length) * 5 + 4 by omega]; exact e4
theorem Cells0.nil (W : World) : Cells0 W [] [] := ⟨rfl, (fun u hu => by cases hu), fun i h => absurd h (by simp)⟩
theorem mod5 (k : Nat) : ∃ i r, k = i * 5 + r ∧ r < 5 := ⟨k / 5, k % 5, by omega, by omega⟩
/-- a slice that came in, as cells -/
theorem cells_of {W : World} {a : Option Addr} {l : List CmdV} (h : SlAt 5 CmdAt W a l) : ∃ us, Cells0 W us l ∧ CellsAt W a us := by
  rcases Nat.eq_zero_or_pos l.length with h0 | h0
  · have : l = [] := List.eq_nil_of_length_eq_zero h0
    subst this
    exact ⟨[], Cells0.nil W, fun hh => absurd hh (by simp)⟩
  · obtain ⟨x, rfl, hx, hi⟩ := h h0
    have key : ∀ k, k < l.length * 5 → ∃ v, W.cell? (x.add k) = some v ∧ v.oneCell' = true := by
      intro k hk
      obtain ⟨i, r, rfl, hr⟩ := mod5 k
      obtain ⟨c0, c1, c2, c3, ay, cy, c4, _⟩ := hi i (by omega)
      have e : ∀ r, x.add (i * 5 + r) = if r = 0 then x.add (i * 5) else ⟨(x.add (i * 5)).block, (x.add (i * 5)).off + r, none⟩ := by
        intro r
        by_cases hr : r = 0
        · rw [if_pos hr, hr, Nat.add_zero]
        · rw [if_neg hr]; unfold Addr.add
          by_cases hz : i * 5 = 0
          · rw [if_neg (by omega), if_pos hz, hz, Nat.zero_add]
          · rw [if_neg (by omega), if_neg hz]; simp [Nat.add_assoc]
      rcases (show r = 0 ∨ r = 1 ∨ r = 2 ∨ r = 3 ∨ r = 4 by omega) with rfl | rfl | rfl | rfl | rfl
      · exact ⟨_, by rw [e 0]; exact c0, rfl⟩
      · exact ⟨_, by rw [e 1]; exact c1, rfl⟩
      · exact ⟨_, by rw [e 2]; exact c2, rfl⟩
      · exact ⟨_, by rw [e 3]; exact c3, rfl⟩
      · exact ⟨_, by rw [e 4]; exact c4, rfl⟩
    obtain ⟨V, hV⟩ := Go.Deep.choose_lt key
    have hat : ∀ j, j < l.length * 5 → ((List.range (l.length * 5)).map V)[j]? = W.cell? (x.add j) := by
      intro j hj
      rw [(hV j hj).1]; simp [hj]
    refine ⟨(List.range (l.length * 5)).map V, ⟨by simp, fun u hu => ?_, fun i hi2 => ?_⟩, fun _ => ⟨x, rfl, hx, fun j u hu => ?_⟩⟩
    · obtain ⟨k, hk, rfl⟩ := List.mem_map.1 hu
      exact (hV k (List.mem_range.1 hk)).2
    · obtain ⟨c0, c1, c2, c3, ay, cy, c4, yi⟩ := hi i hi2
      refine ⟨ay, cy, ?_, ?_, ?_, ?_, ?_, yi⟩
      · rw [hat _ (by omega)]; exact c0
      · rw [hat _ (by omega), add_nextN _ _ 1 (by omega)]; exact c1
      · rw [hat _ (by omega), add_nextN _ _ 2 (by omega)]; exact c2
      · rw [hat _ (by omega), add_nextN _ _ 3 (by omega)]; exact c3
      · rw [hat _ (by omega), add_nextN _ _ 4 (by omega)]; exact c4
    · have hj : j < l.length * 5 := by have := (List.getElem?_eq_some_iff.1 hu).1; simpa using this
      rw [← hat j hj]; exact hu
/-- owned cells can be read -/
theorem own_cells_at {W w : World} {B : Nat} {a : Option Addr} {n c : Nat} {cs : List Value} {l : List CmdV} (ho : w.ownsRow B 27 5 (.slice a n c) n cs) (hn : l.length = n) (h : Cells0 W cs l) (hb : Below W.heap.size W w) : SlAt 5 CmdAt w a l := by
  intro h0
  obtain ⟨g, cap', hv, _, hlt⟩ := ho.form (by omega)
  injection hv with hv
  subst hv
  refine ⟨_, rfl, hlt, fun i hi => ?_⟩
  obtain ⟨a1, c1, e0, e1, e2, e3, e4, e5⟩ := h.2.2 i hi
  have cc : ∀ j u, cs[j]? = some u → w.cell? ⟨g, j, none⟩ = some u := fun j u hu => by rw [← add_zero_block]; exact ho.cells (g := g) rfl j u hu
  rw [add_zero_block]
  exact ⟨cc _ _ e0, cc _ _ e1, cc _ _ e2, cc _ _ e3, a1, c1, cc _ _ e4, e5.below CompAt.abides hb⟩
def GrowPost (W : World) (e : Ending) (w' : World) : Prop := ∃ v, e = .returned v ∧ w'.ownsRow W.heap.size 27 5 v 0 [] ∧ Below W.heap.size W w'
theorem grown_row (W : World) (N : Nat) (hN : N ≤ maxLen) : (W.drew.alloc (.cells (Builtin.zeroCells (Value.agg #[.int .i64 0, .int .i64 0, .int .i64 0, .int .i64 0, .slice none 0 0]).cells N ++ Builtin.zeroCells (Value.agg #[.int .i64 0, .int .i64 0, .int .i64 0, .int .i64 0, .slice none 0 0]).cells (grownCap W N 0 27 - N)) 27)).ownsRow W.heap.size 27 5 (.slice (some ⟨W.heap.size, 0, none⟩) 0 (grownCap W N 0 27)) 0 [] := by
  have h1 := grownCap_ge W N 0 27
  refine ⟨rfl, .inr ⟨W.heap.size, _, _, rfl, Nat.le_refl _, heap_alloc_new W.drew _, Nat.zero_le _, grownCap_le_maxLen W N 0 _ hN, ?_, by simp⟩⟩
  rw [Array.size_append, size_zeroCells, size_zeroCells]
  have e : (Value.agg #[.int .i64 0, .int .i64 0, .int .i64 0, .int .i64 0, .slice none 0 0]).cells.size = 5 := rfl
  rw [e]; omega
set_option maxHeartbeats 4000000 in
theorem grow_nil (N : Nat) (h : N ≤ 262144) (W : World) : Calls Try.prog 45 #[.slice none 0 0, .int .i64 N] W (GrowPost W) := by
  by_cases h0 : 0 < N
  · obtain ⟨i, hi, hz, hs, hby⟩ := info_parts (show (Try.prog.info? 27).map (fun i => (i.zero, i.size, i.bytes)) = some (some (.agg #[.int .i64 0, .int .i64 0, .int .i64 0, .int .i64 0, .slice none 0 0]), 5, 56) by kernel_rfl)
    have hrun := fun W ty => Lib.run_append_nil_zeros (P := Try.prog) W 22 3 ty 27 i _ .i64 .i64 Try.underlying22 Try.underlying3 hi hz N h0 (by omega) (by omega) (by rw [hby]; omega)
    have HR := Lib.hid hrun
    have HG := Lib.hid (grown_row W N (by unfold maxLen; omega))
    obtain ⟨C, hC⟩ : ∃ C, C = grownCap W N 0 27 := ⟨_, rfl⟩
    rw [← hC] at HG
    have HCE := Lib.hid hC
    have hNC : N ≤ C := by rw [hC]; exact grownCap_ge _ _ _ _
    have hCm : C ≤ 9223372036854775807 := by rw [hC]; exact grownCap_le_maxLen W N 0 _ (by unfold maxLen; omega)
    clear hrun hi hz hs hby hC
    go_enter Try.func45, Try.ntmps45
    go_wp2_with (at_builtin; go_must (refine Lib.wpList_append_run _ rfl _ _ _ _ rfl _ _ rfl rfl _ _ (HR.out _ _) ?_))
    rw [← HCE.out]
    go_wp2_with fail
    go_ret
    exact ⟨_, rfl, HG.out, ((Below.refl _ _).drew).alloc (by simp) _⟩
  · have hN : N = 0 := by omega
    subst hN
    go_enter Try.func45, Try.ntmps45
    go_wp2_with fail
    go_ret
    exact ⟨_, rfl, World.ownsRow_nil _ _ _ _, Below.refl _ _⟩
def ConcatPost (l : List CmdV) (n : Nat) (W : World) (e : Ending) (w' : World) : Prop := ∃ a c, e = .returned (.slice a n c) ∧ SlAt 5 CmdAt w' a l ∧ Below W.heap.size W w'
set_option maxHeartbeats 8000000 in
theorem concat_cmds (l : List (List CmdV)) (a : Option Addr) (n cap : Nat) (hn : l.length = n) (h1 : n ≤ 1048576) (hb : tot l ≤ 262144) (W : World) (hz : SlAt 1 CmdsAt W a l) :
    Calls Try.prog 10 #[.slice a n cap] W (ConcatPost l.flatten (tot l) W) := by
  have HN := Lib.hid hn
  have HZ := Lib.hid hz
  have HBG := Lib.hid hb
  obtain ⟨N, hN⟩ : ∃ N, N = tot l := ⟨_, rfl⟩
  rw [← hN]
  have hN2 : N ≤ 262144 := by omega
  have HNN := Lib.hid hN
  clear hn hz hb hN
  go_enter Try.func10, Try.ntmps10
  go_wp2_with fail
  go_loopg [3, 5, 11] n (fun gk v3 v5 vi wx => ∃ k t : Nat, k ≤ n ∧ gk = n - k ∧ vi = .int .i64 k ∧ v3 = .int .i64 t ∧ t = tot (l.take k) ∧ t ≤ 262144 ∧ wx = W)
  case atStart => exact ⟨0, 0, Nat.zero_le _, rfl, rfl, rfl, rfl, by omega, rfl⟩
  case round =>
    obtain ⟨k, t, hk, g2, rfl, rfl, ht, htb, hw⟩ := hrel
    obtain rfl : W = wr := hw.symm
    have G2 := Lib.hid g2
    have HT := Lib.hid ht
    clear g2 ht
    by_cases hlt : k < n
    · obtain ⟨x, rfl, hx, hi⟩ := HZ.out (by rw [HN.out]; omega)
      obtain ⟨b, c, c0, _⟩ := hi k (by rw [HN.out]; exact hlt)
      rw [Nat.mul_one] at c0
      obtain ⟨m, hm⟩ : ∃ m, m = (l[k]'(by rw [HN.out]; exact hlt)).length := ⟨_, rfl⟩
      rw [← hm] at c0
      have hs : t + m = tot (l.take (k + 1)) := by rw [tot_take _ _ (by rw [HN.out]; exact hlt), HT.out, hm]
      have hs2 : t + m ≤ 262144 := by have := tot_mono l (k + 1); have := HBG.out; omega
      have HS := Lib.hid hs
      clear hi hm hs
      go_wp2_with fail
      go_roundg (n - (k + 1))
      case measure => rw [G2.out]; omega
      case rel => exact ⟨k + 1, t + m, hlt, rfl, by go_num, by go_num, HS.out, by omega, rfl⟩
    · have htn : t = N := by rw [HT.out, HNN.out, show k = l.length by rw [HN.out]; omega, List.take_length]
      subst htn
      clear HT
      go_wp2_with fail
      refine (grow_nil t htb _).mono ?_
      rintro e w1 ⟨v, rfl, ho, hb1⟩
      have HO1 := Lib.hid ho
      have HB1 := Lib.hid hb1
      clear ho hb1
      go_wp2_with fail
      go_loopg [6, 8, 27] n (fun gk v6 v8 vi wx => ∃ (k m : Nat) (cs : List Value), k ≤ n ∧ gk = n - k ∧ vi = .int .i64 k ∧ m ≤ 262144 ∧ m = tot (l.take k) ∧ wx.ownsRow W.heap.size 27 5 v6 m cs ∧ Cells0 W cs (l.take k).flatten ∧ Below W.heap.size W wx)
      case atStart => exact ⟨0, 0, [], Nat.zero_le _, rfl, rfl, by omega, rfl, HO1.out, Cells0.nil W, HB1.out⟩
      case round =>
        obtain ⟨k, m, cs, hk, g3, rfl, hm2, hm3, hown, hcells, hb⟩ := hrel
        have G3 := Lib.hid g3
        have HC0 := Lib.hid hcells
        have HB := Lib.hid hb
        have HM := Lib.hid hm3
        have hbs := hb.size
        clear g3 hcells hb hm3
        by_cases hlk : k < n
        · obtain ⟨x, rfl, hx, hi⟩ := HZ.out (by rw [HN.out]; omega)
          obtain ⟨b, c, c0, hzi⟩ := hi k (by rw [HN.out]; exact hlk)
          rw [Nat.mul_one] at c0
          replace c0 := cell_abides c0 HB.out
          obtain ⟨C, hC⟩ : ∃ C, C = l[k]'(by rw [HN.out]; exact hlk) := ⟨_, rfl⟩
          rw [← hC] at c0 hzi
          obtain ⟨us, hu0, hu1⟩ := cells_of hzi
          obtain ⟨q, hq⟩ : ∃ q, q = C.length := ⟨_, rfl⟩
          rw [← hq] at c0
          have hs : m + q = tot (l.take (k + 1)) := by rw [tot_take _ _ (by rw [HN.out]; exact hlk), HM.out, hq, hC]
          have hs2 : m + q ≤ 262144 := by have := tot_mono l (k + 1); have := HBG.out; omega
          have hft : (l.take (k + 1)).flatten = (l.take k).flatten ++ C := by rw [flat_take _ _ (by rw [HN.out]; exact hlk), hC]
          have hul : us.length = q * 5 := by rw [hq]; exact hu0.1
          have HS := Lib.hid hs
          have HFT := Lib.hid hft
          have HU0 := Lib.hid hu0
          have HU1 := Lib.hid (show CellsAt wr b us from fun h0 => by
            obtain ⟨x, e, h2, h3⟩ := hu1 h0
            exact ⟨x, e, Nat.lt_of_lt_of_le h2 HB.out.size, fun j u hu => cell_abides (h3 j u hu) HB.out⟩)
          have HUL := Lib.hid hul
          clear hi hC hzi hu0 hu1 hq hs hft hul
          go_wp2_with (at_builtin; go_must (refine wpList_append_cells rfl _ _ 22 rfl W.heap.size 27 (.agg #[.int .i64 0, .int .i64 0, .int .i64 0, .int .i64 0, .slice none 0 0]) 5 56 Try.underlying22 (by kernel_rfl) rfl (by decide) _ m cs rfl hown b q _ us rfl HUL.out HU1.out HU0.out.2.1 (by unfold maxLen; omega) (by omega) hbs ?_))
          intro v' w' hown' hg hor
          have hb5 : Below W.heap.size W w' := HB.out.grown hg hbs (fun g hg2 => (own_lt hown g hg2).1)
          have HO5 := Lib.hid hown'
          have HB5 := Lib.hid hb5
          have HC5 := Lib.hid (HC0.out.append HU0.out)
          clear hown hown' hg hor hb5
          go_wp2_with fail
          go_roundg (n - (k + 1))
          case measure => rw [G3.out]; omega
          case rel => exact ⟨k + 1, m + q, cs ++ us, hlk, rfl, by go_num, hs2, HS.out, HO5.out, by rw [HFT.out]; exact HC5.out, HB5.out⟩
        · have hke : k = n := by omega
          obtain ⟨a2, c2, rfl⟩ := own_slice hown
          have hm4 : m = t := by rw [HM.out, HNN.out, show k = l.length by rw [HN.out]; omega, List.take_length]
          have hfl : l.flatten.length = m := by rw [flat_length, ← HNN.out]; exact hm4.symm
          have hc9 := HC0.out
          rw [show l.take k = l by rw [hke, ← HN.out, List.take_length]] at hc9
          have HAT := Lib.hid (own_cells_at hown hfl hc9 HB.out)
          clear hown hc9 hfl hke
          subst hm4
          go_wp2_with fail
          go_ret
          exact ⟨a2, c2, rfl, HAT.out, HB.out⟩
end Go.Proofs.Ytfckbkhnelgjbaa
