/- Lemmas for the law TopDigestPlace: MerkleP4, Narrow, MRoot. No conditions. -/
import Derived.Test.YtncnbfefciobcaaM03
import Derived.BigQuiet
import Derived.Deep.QuietTactic
/- Trees of digests: one level from the next (plain). -/
section
namespace Go.Mk
section
variable (T : Int → Int → Int)
theorem levs_zero (l : List Int) : (levs T l).getD 0 [] = l := by
  by_cases h : l.length ≤ 1
  · rw [levs_short T l h]; rfl
  · rw [levs_long T l (by omega)]; rfl
theorem levs_succ : ∀ (n : Nat) (l : List Int), l.length = n → ∀ k, k + 1 < (levs T l).length → (levs T l).getD (k + 1) [] = pair T ((levs T l).getD k []) ∧ 2 ≤ ((levs T l).getD k []).length := by
  intro n
  induction n using Nat.strongRecOn with
  | _ n ih =>
    intro l hl k hk
    by_cases h : l.length ≤ 1
    · rw [levs_short T l h] at hk; simp at hk
    · rw [levs_long T l (by omega)] at hk ⊢
      cases k with
      | zero =>
        show (levs T (pair T l)).getD 0 [] = pair T l ∧ 2 ≤ l.length
        exact ⟨levs_zero T (pair T l), by omega⟩
      | succ k =>
        have := ih ((n + 1) / 2) (by omega) (pair T l) (by rw [pair_length, hl]) k (by simp at hk; omega)
        exact this
theorem levs_same : ∀ (n : Nat) (l m : List Int), l.length = n → m.length = n → (levs T l).length = (levs T m).length ∧ ∀ i, ((levs T l).getD i []).length = ((levs T m).getD i []).length := by
  intro n
  induction n using Nat.strongRecOn with
  | _ n ih =>
    intro l m hl hm
    by_cases h : n ≤ 1
    · rw [levs_short T l (by omega), levs_short T m (by omega)]
      refine ⟨rfl, fun i => ?_⟩
      cases i with
      | zero => show l.length = m.length; omega
      | succ i => rfl
    · obtain ⟨h1, h2⟩ := ih ((n + 1) / 2) (by omega) (pair T l) (pair T m) (by rw [pair_length, hl]) (by rw [pair_length, hm])
      rw [levs_long T l (by omega), levs_long T m (by omega)]
      refine ⟨by simp [h1], fun i => ?_⟩
      cases i with
      | zero => show l.length = m.length; omega
      | succ i => exact h2 i
theorem levs_all (p : List Int → Prop) (hp : ∀ l, p l → p (pair T l)) : ∀ (n : Nat) (l : List Int), l.length = n → p l → ∀ i, i < (levs T l).length → p ((levs T l).getD i []) := by
  intro n
  induction n using Nat.strongRecOn with
  | _ n ih =>
    intro l hl h i hi
    by_cases h1 : l.length ≤ 1
    · rw [levs_short T l h1] at hi ⊢
      have : i = 0 := by simp at hi; exact hi
      subst this; exact h
    · rw [levs_long T l (by omega)] at hi ⊢
      cases i with
      | zero => exact h
      | succ i => exact ih ((n + 1) / 2) (by omega) (pair T l) (by rw [pair_length, hl]) (hp l h) i (by simp at hi; omega)
/-- The way down at a level. -/
def way (X Y : List Int) (j : Nat) : Nat × Nat := nd T ((levs T X).getD j []) ((levs T Y).getD j [])
theorem way_top (X Y : List Int) (h1 : 1 ≤ X.length) : way T X Y ((levs T X).length - 1) = (0, 0) := by
  unfold way
  apply nd_one
  rw [levs_last T X.length X rfl h1]
  simp
theorem way_down (X Y : List Int) (h : X.length = Y.length) (j : Nat) (hj : j + 1 < (levs T X).length) : way T X Y j = down ((levs T X).getD j []).length ((levs T X).getD j []) ((levs T Y).getD j []) (way T X Y (j + 1)) ∧ 2 * (way T X Y (j + 1)).1 < ((levs T X).getD j []).length := by
  obtain ⟨s1, s2⟩ := levs_same T X.length X Y rfl h.symm
  obtain ⟨x1, x2⟩ := levs_succ T X.length X rfl j hj
  obtain ⟨y1, y2⟩ := levs_succ T Y.length Y rfl j (by rw [← s1]; exact hj)
  unfold way
  rw [x1, y1]
  refine ⟨nd_pair T _ _ _ rfl (s2 j).symm x2, ?_⟩
  have := nd_lt T (((levs T X).getD j []).length + 1) (pair T ((levs T X).getD j [])) (pair T ((levs T Y).getD j []))
  have hl := pair_length T ((levs T X).getD j [])
  have := nd_lt T _ (pair T ((levs T X).getD j [])) (pair T ((levs T Y).getD j [])) rfl (by omega)
  omega
theorem way_zero (X Y : List Int) : way T X Y 0 = nd T X Y := by unfold way; rw [levs_zero, levs_zero]
end
end Go.Mk
end
/- merkle.Narrow. -/
section
namespace Go.Proofs.Ytncnbfefciobcaa
open Go.ChangeShapes Go.WideShapes Go.ChangeAt Go.RowKit Go.Mem Go.Mk
set_option linter.unusedVariables false

theorem U64s.pair_all {l : List Int} (h : U64s l) (i : Nat) (hi : i < (levs tieI l).length) : U64s ((levs tieI l).getD i []) := levs_all tieI U64s pair_u64 l.length l rfl h i hi
/-- A row of the levels, read. -/
theorem LevAt.row {w : World} {v : Value} {ls : List (List Int)} (h : LevAt w v ls) : ∃ g cap, v = .slice (some ⟨g, 0, none⟩) ls.length cap ∧ ls.length ≤ cap ∧ g < w.heap.size ∧
    ∀ j, j < ls.length → 1 ≤ (ls.getD j []).length → ∃ x c, w.cell? ⟨g, j, none⟩ = some (.slice (some x) (ls.getD j []).length c) ∧ (ls.getD j []).length ≤ c ∧ x.block < w.heap.size ∧ ∀ i, i < (ls.getD j []).length → w.cell? (x.add i) = some (.int .u64 ((ls.getD j []).getD i 0)) := by
  obtain ⟨g, cap, h1, h2, h3, h4⟩ := h
  refine ⟨g, cap, h1, h2, h3, fun j hj hl => ?_⟩
  obtain ⟨a, c, k1, k2, k3⟩ := h4 j hj
  obtain ⟨x, rfl, hx, hc⟩ := k3 (by omega)
  exact ⟨x, c, k1, k2, hx, hc⟩

/-- What Narrow computes of two lists of one length. -/
def narrow (X Y : List Int) : Int × Int := if top tieI X = top tieI Y then (-1, 1) else (((nd tieI X Y).1 : Int), ((nd tieI X Y).2 : Int) + 1)

theorem merkle_Narrow_out (a b : Option Addr) (n m ca cb : Nat) (h : max n m = 0 ∨ 4096 < max n m) (hn : n ≤ 17592186044416) (hm : m ≤ 17592186044416) (w : World) :
    Calls Try.prog 10 #[.slice a n ca, .slice b m cb] w fun e w' => e = .returned (.tuple #[.int .i64 (-1), .int .i64 0]) ∧ w = w' := by
  rcases h with h | h
  · obtain rfl : n = 0 := by omega
    obtain rfl : m = 0 := by omega
    go_enter Try.func10, Try.ntmps10
    go_wp2
    go_ret2
    exact ⟨rfl, rfl⟩
  · rcases (show m ≤ n ∨ n < m by omega) with q | q
    · have h0 : ((n : Int) == 0) = false := by simp; omega
      have h1 : decide (4096 < (n : Int)) = true := by simp; omega
      clear h
      go_enter Try.func10, Try.ntmps10
      go_wp2
      go_ret2
      exact ⟨rfl, rfl⟩
    · have h0 : ((m : Int) == 0) = false := by simp; omega
      have h1 : decide (4096 < (m : Int)) = true := by simp; omega
      clear h
      go_enter Try.func10, Try.ntmps10
      go_wp2
      go_ret2
      exact ⟨rfl, rfl⟩
theorem SlicePost.n {zs : List Int} {w : World} {e : Ending} {w' : World} (h : SlicePost zs w e w') (n : Nat) (hn : zs.length = n) : ∃ a cap, e = .returned (.slice a n cap) ∧ n ≤ cap ∧ IntsAt .u64 w' a zs ∧ Below w.heap.size w w' := by
  subst hn; exact h
theorem LevAt.rowN {w : World} {v : Value} {ls : List (List Int)} (h : LevAt w v ls) (T : Nat) (hT : ls.length = T) : ∃ g cap, v = .slice (some ⟨g, 0, none⟩) T cap ∧ T ≤ cap ∧ g < w.heap.size ∧
    ∀ j L, j < T → (ls.getD j []).length = L → 1 ≤ L → ∃ x c, w.cell? ⟨g, j, none⟩ = some (.slice (some x) L c) ∧ L ≤ c ∧ x.block < w.heap.size ∧ ∀ i, i < L → w.cell? (x.add i) = some (.int .u64 ((ls.getD j []).getD i 0)) := by
  subst hT
  obtain ⟨g, cap, h1, h2, h3, h4⟩ := h.row
  exact ⟨g, cap, h1, h2, h3, fun j L hj hL h1 => by subst hL; exact h4 j hj h1⟩

set_option maxHeartbeats 16000000 in
set_option maxRecDepth 100000 in
theorem merkle_Narrow (la lb : List Int) (a b : Option Addr) (n m ca cb : Nat) (hn : la.length = n) (hm : lb.length = m) (h1 : 1 ≤ max n m) (h2 : max n m ≤ 4096) (ha : U64s la) (hb : U64s lb) (w : World) (hia : IntsAt .u64 w a la) (hib : IntsAt .u64 w b lb) :
    Calls Try.prog 10 #[.slice a n ca, .slice b m cb] w fun e w' => e = .returned (.tuple #[.int .i64 (narrow (fill la lb) (fill lb la)).1, .int .i64 (narrow (fill la lb) (fill lb la)).2]) ∧ Below w.heap.size w w' := by
  have cf1 := fun w h1 h2 => merkle_filled la lb a b n m ca cb hn hm (by omega) (by omega) ha hb w h1 h2
  have cf2 := fun w h1 h2 => merkle_filled lb la b a m n cb ca hm hn (by omega) (by omega) hb ha w h1 h2
  obtain ⟨X, hX⟩ : ∃ X, X = fill la lb := ⟨_, rfl⟩
  obtain ⟨Y, hY⟩ : ∃ Y, Y = fill lb la := ⟨_, rfl⟩
  obtain ⟨N, hN⟩ : ∃ N, N = max n m := ⟨_, rfl⟩
  have hXl : X.length = N := by rw [hX, fill_length, hn, hm, hN]
  have hYl : Y.length = N := by rw [hY, fill_length, hn, hm, hN]; omega
  have hXu : U64s X := by rw [hX]; exact fill_u64 la lb ha hb
  have hYu : U64s Y := by rw [hY]; exact fill_u64 lb la hb ha
  rw [← hX] at cf1 ⊢
  rw [← hY] at cf2 ⊢
  have hN1 : 1 ≤ N := by omega
  have hN2 : N ≤ 4096 := by omega
  obtain ⟨t, hT⟩ : ∃ t, (levs tieI X).length = t + 1 := ⟨(levs tieI X).length - 1, by have := levs_pos tieI X; omega⟩
  obtain ⟨T, hTT⟩ : ∃ T, T = t + 1 := ⟨_, rfl⟩
  rw [← hTT] at hT
  have hTY : (levs tieI Y).length = T := by rw [← (levs_same tieI N X Y hXl hYl).1, hT]
  have hsame := (levs_same tieI N X Y hXl hYl).2
  obtain ⟨A, hA, lA⟩ := (top_in X hXu).nat
  obtain ⟨B, hB, lB⟩ := (top_in Y hYu).nat
  have hlX : (levs tieI X).getD t [] = [(A : Int)] := by
    have := levs_last tieI N X hXl hN1
    rw [hT, hA, show T - 1 = t by omega] at this; exact this
  have hlY : (levs tieI Y).getD t [] = [(B : Int)] := by
    have := levs_last tieI N Y hYl hN1
    rw [hTY, hB, show T - 1 = t by omega] at this; exact this
  have hway0 : way tieI X Y t = (0, 0) := by
    have := way_top tieI X Y (by omega)
    rw [hT, show T - 1 = t by omega] at this; exact this
  have hXY : X.length = Y.length := by omega
  have hwd := fun (j : Nat) (hj : j + 1 < T) => way_down tieI X Y hXY j (by rw [hT]; exact hj)
  have hfin : narrow X Y = if A = B then (-1, 1) else (((way tieI X Y 0).1 : Int), ((way tieI X Y 0).2 : Int) + 1) := by
    unfold narrow
    rw [hA, hB, way_zero]
    by_cases e : A = B
    · rw [if_pos e, if_pos (by rw [e])]
    · rw [if_neg e, if_neg (by omega)]
  have CF1 := Lib.hid cf1
  have CF2 := Lib.hid cf2
  have HXL := Lib.hid hXl
  have HYL := Lib.hid hYl
  have HXU := Lib.hid hXu
  have HYU := Lib.hid hYu
  have HT := Lib.hid hT
  have HTY := Lib.hid hTY
  have HTT := Lib.hid hTT
  have HSAME := Lib.hid hsame
  have HLX := Lib.hid hlX
  have HLY := Lib.hid hlY
  have HW0 := Lib.hid hway0
  have HWD := Lib.hid hwd
  have HFIN := Lib.hid hfin
  have HIA := Lib.hid hia
  have HIB := Lib.hid hib
  have eT : (T : Int) - 1 = (t : Int) := by omega
  have tT : t < T := by omega
  have tb : T ≤ 4097 := by have := levs_length tieI N X hXl; omega
  clear hXY cf1 cf2 hX hY hn hm ha hb hia hib hXl hYl hXu hYu hT hTT hTY hsame hA hB hlX hlY hway0 hwd hfin
  rcases (show m ≤ n ∨ n < m by omega) with q | q
  all_goals
    obtain ⟨M, hM⟩ : ∃ M, M = max n m := ⟨_, rfl⟩
    first
      | (have hz : ((n : Int) == 0) = false := by simp; omega
         have hz2 : decide (4096 < (n : Int)) = false := by simp; omega
         clear hM hN h1 h2)
      | (have hz : ((m : Int) == 0) = false := by simp; omega
         have hz2 : decide (4096 < (m : Int)) = false := by simp; omega
         clear hM hN h1 h2)
    go_enter Try.func10, Try.ntmps10
    go_wp2_with fail
    refine (CF1.out _ HIA.out HIB.out).mono ?_
    rintro e w1 hp1
    obtain ⟨fa, fca, rfl, fa1, fa2, hb1⟩ := hp1.n N HXL.out
    have FA := Lib.hid fa2
    clear fa2 hp1
    go_wp2_with fail
    refine (merkle_levels X fa N fca HXL.out hN1 (by omega) HXU.out _ FA.out).mono ?_
    rintro e w2 ⟨vx, rfl, hlx, hb2⟩
    have hbw := bt hb1 hb2
    have LX := Lib.hid hlx
    clear hb1 hb2 hlx FA
    go_wp2_with fail
    refine (CF2.out _ (HIB.out.below hbw) (HIA.out.below hbw)).mono ?_
    rintro e w3 hp1
    obtain ⟨fb, fcb, rfl, fb1, fb2, hb1⟩ := hp1.n N HYL.out
    have FB := Lib.hid fb2
    replace LX := Lib.hid (LX.out.below hb1)
    replace hbw := bt hbw hb1
    clear fb2 hp1 hb1
    go_wp2_with fail
    refine (merkle_levels Y fb N fcb HYL.out hN1 (by omega) HYU.out _ FB.out).mono ?_
    rintro e w4 ⟨vy, rfl, hly, hb2⟩
    obtain ⟨gx, cx, rfl, cx1, lgx, hrx⟩ := (LX.out.below hb2).rowN T HT.out
    obtain ⟨gy, cy, rfl, cy1, lgy, hry⟩ := hly.rowN T HTY.out
    have hbw := bt hbw hb2
    have RX := Lib.hid hrx
    have RY := Lib.hid hry
    clear hb2 hly FB LX hrx hry
    obtain ⟨xa, xc, x1, x2, x3, x4⟩ := RX.out t 1 tT (by rw [HLX.out]; rfl) (Nat.le_refl _)
    obtain ⟨ya, yc, y1, y2, y3, y4⟩ := RY.out t 1 tT (by rw [HLY.out]; rfl) (Nat.le_refl _)
    have x5 : w4.cell? xa = some (.int .u64 A) := by
      have := x4 0 (by omega)
      rw [HLX.out, show xa.add 0 = xa by simp [Addr.add]] at this; exact this
    have y5 : w4.cell? ya = some (.int .u64 B) := by
      have := y4 0 (by omega)
      rw [HLY.out, show ya.add 0 = ya by simp [Addr.add]] at this; exact this
    have i1 : (0 : Int) ≤ (t : Int) := by omega
    have i2 : (t : Int) < (T : Int) := by omega
    clear x4 y4
    by_cases e : A = B
    · have he : ((A : Int) == (B : Int)) = true := by simp [e]
      have HF := Lib.hid (HFIN.out.trans (if_pos e))
      clear e
      go_wp2_with fail
      go_quiet (fail)
      go_wp2
      go_ret2
      exact ⟨by rw [HF.out]; rfl, below_drewN hbw _⟩
    · have he : ((A : Int) == (B : Int)) = false := by rw [beq_eq_false_iff_ne]; omega
      have HF := Lib.hid (HFIN.out.trans (if_neg e))
      clear e
      go_wp2_with fail
      go_quiet (fail)
      go_wp2
      go_loopg [10, 11, 12] t (fun gk va vk vi wx => ∃ j : Nat, j ≤ t ∧ gk = j ∧ vi = .int .i64 ((j : Int) - 1) ∧ va = .int .i64 ((way tieI X Y j).1 : Nat) ∧ vk = .int .i64 (((way tieI X Y j).2 : Nat) + 1) ∧ (way tieI X Y j).2 + j ≤ t ∧ Below w4.heap.size w4 wx)
      case atStart => exact ⟨t, Nat.le_refl _, rfl, rfl, by rw [HW0.out]; rfl, by rw [HW0.out]; rfl, by rw [HW0.out]; exact Nat.le_of_eq (Nat.zero_add t), below_drewN (Below.refl _ _) _⟩
      case round =>
        obtain ⟨j, j1, j2, rfl, rfl, rfl, j3, hbx⟩ := hrel
        have J2 := Lib.hid j2
        have J3 := Lib.hid j3
        clear j2 j3
        rcases j with _ | i
        · obtain ⟨p1, hp1⟩ : ∃ p, p = (way tieI X Y 0).1 := ⟨_, rfl⟩
          obtain ⟨p2, hp2⟩ : ∃ p, p = (way tieI X Y 0).2 := ⟨_, rfl⟩
          rw [← hp1, ← hp2]
          have HP := Lib.hid (And.intro hp1 hp2)
          have e0 : ((0 : Nat) : Int) - 1 = -1 := rfl
          rw [e0]
          clear hp1 hp2 e0
          go_wp2
          go_ret2
          exact ⟨by rw [HF.out, ← HP.out.1, ← HP.out.2]; rfl, bt hbw hbx⟩
        · have hd := HWD.out i (by omega)
          obtain ⟨hd1, hd2⟩ := hd
          obtain ⟨p1, hp1⟩ : ∃ p, p = (way tieI X Y (i + 1)).1 := ⟨_, rfl⟩
          obtain ⟨p2, hp2⟩ : ∃ p, p = (way tieI X Y (i + 1)).2 := ⟨_, rfl⟩
          rw [← hp1, ← hp2]
          rw [← hp1] at hd2
          obtain ⟨L, hL⟩ : ∃ L, L = ((levs tieI X).getD i []).length := ⟨_, rfl⟩
          rw [← hL] at hd1 hd2
          have hLY : ((levs tieI Y).getD i []).length = L := by rw [hL]; exact (HSAME.out i).symm
          obtain ⟨x, xc2, a1, a2, a3, a4⟩ := RX.out i L (by omega) hL.symm (by omega)
          obtain ⟨y, yc2, b1, b2, b3, b4⟩ := RY.out i L (by omega) hLY (by omega)
          obtain ⟨P, hP⟩ : ∃ P, P = 2 * p1 := ⟨_, rfl⟩
          rw [← hP] at hd2
          obtain ⟨u, hu, lu⟩ := ((HXU.out.pair_all i (by rw [HT.out]; omega)).getD_in P).nat
          obtain ⟨v, hv, lv⟩ := ((HYU.out.pair_all i (by rw [HTY.out]; omega)).getD_in P).nat
          have cu := (hbx.cell (by rw [block_of_add]; exact a3)).trans (a4 P hd2)
          have cv := (hbx.cell (by rw [block_of_add]; exact b3)).trans (b4 P hd2)
          have ca := (hbx.cell (p := ⟨gx, i, none⟩) lgx).trans a1
          have cb := (hbx.cell (p := ⟨gy, i, none⟩) lgy).trans b1
          rw [hu] at cu
          rw [hv] at cv
          have hwi : way tieI X Y i = if P + 1 = L then (P, p2) else if u = v then (P + 1, p2 + 1) else (P, p2 + 1) := by
            rw [hd1]
            unfold down
            rw [← hp1, ← hp2, ← hP, hu, hv]
            by_cases e : u = v
            · rw [if_pos (show (u : Int) = (v : Int) by rw [e]), if_pos e]
            · rw [if_neg (show ¬ (u : Int) = (v : Int) by omega), if_neg e]
          have HWI := Lib.hid hwi
          have eI : ((i + 1 : Nat) : Int) - 1 = (i : Int) := by omega
          rw [eI]
          have eP : (p1 : Int) * 2 = (P : Int) := by omega
          have pb : L ≤ 4096 := by
            have := levs_all tieI (fun l => l.length ≤ 4096) (fun l h => by rw [pair_length]; omega) N X HXL.out (by rw [HXL.out]; exact hN2) i (by rw [HT.out]; omega)
            rw [hL]; exact this
          have p2b : p2 + (i + 1) ≤ t := by rw [hp2]; exact J3.out
          have k1 : (0 : Int) ≤ (i : Int) := by omega
          have k2 : (i : Int) < (T : Int) := by omega
          have k3 : (0 : Int) ≤ (P : Int) := by omega
          have k4 : (P : Int) < (L : Int) := by omega
          clear hd1 hp1 hp2 hL hLY a1 a2 a3 a4 b1 b2 b3 b4 hP hu hv hwi eI
          by_cases q5 : P + 1 = L
          · have hb5 : ((P : Int) + 1 == (L : Int)) = true := by simp; omega
            have HW := Lib.hid (HWI.out.trans (if_pos q5))
            clear q5
            go_wp2
            go_roundg i
            case measure => rw [J2.out]; omega
            case rel => exact ⟨i, by omega, rfl, rfl, by rw [HW.out], by rw [HW.out], by rw [HW.out]; omega, hbx⟩
          · have hb5 : ((P : Int) + 1 == (L : Int)) = false := by rw [beq_eq_false_iff_ne]; omega
            have HW1 := HWI.out.trans (if_neg q5)
            clear q5
            by_cases q6 : u = v
            · have hb6 : ((u : Int) == (v : Int)) = true := by simp [q6]
              have HW := Lib.hid (HW1.trans (if_pos q6))
              clear q6 HW1
              go_wp2_with fail
              go_quiet (fail)
              go_wp2
              go_roundg i
              case measure => rw [J2.out]; omega
              case rel => exact ⟨i, by omega, rfl, rfl, by rw [HW.out]; go_num, by rw [HW.out]; go_num, by rw [HW.out]; show p2 + 1 + i ≤ t; omega, below_drewN hbx _⟩
            · have hb6 : ((u : Int) == (v : Int)) = false := by rw [beq_eq_false_iff_ne]; omega
              have HW := Lib.hid (HW1.trans (if_neg q6))
              clear q6 HW1
              go_wp2_with fail
              go_quiet (fail)
              go_wp2
              go_roundg i
              case measure => rw [J2.out]; omega
              case rel => exact ⟨i, by omega, rfl, rfl, by rw [HW.out], by rw [HW.out]; go_num, by rw [HW.out]; show p2 + 1 + i ≤ t; omega, below_drewN hbx _⟩
end Go.Proofs.Ytncnbfefciobcaa
end
/- merkle.Root. -/
section
namespace Go.Proofs.Ytncnbfefciobcaa
open Go.ChangeShapes Go.WideShapes Go.ChangeAt Go.RowKit Go.Mem Go.Mk
set_option linter.unusedVariables false

theorem merkle_Root_long (a : Option Addr) (n cap : Nat) (h : 4096 < n) (hn : n ≤ 17592186044416) (w : World) :
    Calls Try.prog 11 #[.slice a n cap] w fun e w' => e = .returned (.tuple #[.int .u64 0, .int .i64 2]) ∧ w = w' := by
  go_enter Try.func11, Try.ntmps11
  go_wp2
  go_ret2
  exact ⟨rfl, rfl⟩
theorem merkle_Root_none (a : Option Addr) (cap : Nat) (w : World) :
    Calls Try.prog 11 #[.slice a 0 cap] w fun e w' => e = .returned (.tuple #[.int .u64 0, .int .i64 0]) ∧ w = w' := by
  go_enter Try.func11, Try.ntmps11
  go_wp2
  go_ret2
  exact ⟨rfl, rfl⟩

set_option maxHeartbeats 4000000 in
set_option maxRecDepth 100000 in
theorem merkle_Root (l : List Int) (a : Option Addr) (n cap : Nat) (hn : l.length = n) (h1 : 1 ≤ n) (h2 : n ≤ 4096) (hu : U64s l) (w : World) (hin : IntsAt .u64 w a l) :
    Calls Try.prog 11 #[.slice a n cap] w fun e w' => e = .returned (.tuple #[.int .u64 (top tieI l), .int .i64 0]) ∧ Below w.heap.size w w' := by
  obtain ⟨t, hT⟩ : ∃ t, (levs tieI l).length = t + 1 := ⟨(levs tieI l).length - 1, by have := levs_pos tieI l; omega⟩
  obtain ⟨T, hTT⟩ : ∃ T, T = t + 1 := ⟨_, rfl⟩
  rw [← hTT] at hT
  obtain ⟨A, hA, lA⟩ := (top_in l hu).nat
  have hlX : (levs tieI l).getD t [] = [(A : Int)] := by
    have := levs_last tieI n l hn h1
    rw [hT, hA, show T - 1 = t by omega] at this; exact this
  rw [hA]
  have eT : (T : Int) - 1 = (t : Int) := by omega
  have tT : t < T := by omega
  have tb : T ≤ 4097 := by have := levs_length tieI n l hn; omega
  have hz : ((n : Int) == 0) = false := by rw [beq_eq_false_iff_ne]; omega
  have cl := merkle_levels l a n cap hn h1 (by omega) hu w hin
  have HT := Lib.hid hT
  have HLX := Lib.hid hlX
  have CL := Lib.hid cl
  clear hT hlX cl hu hin hA hn
  go_enter Try.func11, Try.ntmps11
  go_wp2_with fail
  refine CL.out.mono ?_
  rintro e w1 ⟨v, rfl, hlev, hb1⟩
  obtain ⟨g, c, rfl, hc, hg, hrow⟩ := hlev.rowN T HT.out
  obtain ⟨x, c2, hc1, hc2, hx, hcell⟩ := hrow t 1 (by omega) (by rw [HLX.out]; rfl) (Nat.le_refl _)
  have hcell0 := hcell 0 (by omega)
  rw [HLX.out] at hcell0
  have hcell1 : w1.cell? x = some (.int .u64 (A : Int)) := by have := hcell0; simpa [Addr.add] using this
  clear hrow hcell hlev hcell0
  go_wp2
  go_ret2
  exact ⟨rfl, hb1⟩
end Go.Proofs.Ytncnbfefciobcaa
end
