/- The reference's share. -/
import Derived.Test.YtdhaaeaacbnghaaNatW
import Derived.Test.YtdhaaeaacbnghaaMost
import Derived.Test.YtdhaaeaacbnghaaShareP
import Derived.Test.YtdhaaeaacbnghaaKeep
import Derived.Test.YtdhaaeaacbnghaaMem2
import Derived.Shelf.Abstract
import Derived.Deep.RegionHeld3
import Derived.IntWalk
namespace Go.Proofs.Ytdhaaeaacbnghaa
open Go.ChangeShapes Go.WideShapes Go.ChangeAt Go.RowKit Go.Mem Go.Nb
set_option linter.unusedVariables false

theorem pw6 : pw 6 = 1237940039285380274899124224 := by decide +kernel
theorem nat_len {w : World} {ao : Option Addr} {len : Nat} {n : Int} (h : NatS w ao len n) (hn : n < 1237940039285380274899124224) : len ≤ 6 := h.len_le 6 (by rw [pw6]; exact hn)
/-- What the closure captures: a variable with a natural number. -/
def VarN (w : World) (B : Nat) (n : Int) : Prop := ∃ ao len cap, w.cell? ⟨B, 0, none⟩ = some (.slice ao len cap) ∧ len ≤ cap ∧ NatS w ao len n
theorem VarN.mono {w w' : World} {B : Nat} {n : Int} (h : VarN w B n) (hb : Below w.heap.size w w') : VarN w' B n := by
  obtain ⟨ao, len, cap, h1, h2, h3⟩ := h
  exact ⟨ao, len, cap, (hb.cell (World.block_lt_of_cell? w _ h1)).trans h1, h2, h3.mono hb⟩
theorem held3 {a b c : Prop} (h : a ∧ b ∧ c) : c := h.2.2

set_option maxHeartbeats 2000000 in
theorem ref_share1 (n c t : Int) (B C : Nat) (w : World) (h0 : 0 ≤ n) (h1 : n ≤ 2199023255552) (hc : w.cell? ⟨B, 0, none⟩ = some (.int .i64 c)) (ht : VarN w C t) (c0 : 0 < c) (c1 : c ≤ 2199023255552) (t1 : t ≤ 9671406556917033397649408) :
    Calls Try.prog 105 #[.int .i64 n, .pointer (some ⟨B, 0, none⟩), .pointer (some ⟨C, 0, none⟩)] w fun e w' => e = .returned (.bool (decide (max (2 * n - 1) 0 * c ≤ t))) ∧ Below w.heap.size w w' := by
  obtain ⟨bo, bl, bc, hc2, hl2, hn2⟩ := ht
  have l2 := nat_len hn2 (by omega)
  have p2 : 0 ≤ max (2 * n - 1) 0 * c := Int.mul_nonneg (by omega) (by omega)
  have p3 : max (2 * n - 1) 0 * c ≤ 4398046511103 * 2199023255552 := Int.mul_le_mul (by omega) c1 (by omega) (by omega)
  have mc : max c 0 = c := by omega
  have cn1 := ref_natOf (2 * n - 1) (by omega)
  have cn2 := ref_natOf c (by omega)
  rw [mc] at cn2
  have CN1 := Lib.hid cn1
  have CN2 := Lib.hid cn2
  have HN2 := Lib.hid hn2
  clear hn2 cn1 cn2 mc
  have hB := Below.refl w.heap.size w
  have q1 : IntKind.i64.wrap (2 * n) = 2 * n := IntWalk.i64_in _ (by omega)
  have q2 : IntKind.i64.wrap (2 * n - 1) = 2 * n - 1 := IntWalk.i64_in _ (by omega)
  go_enter Try.func105, Try.ntmps105
  go_wp2_with fail
  go_region_held3 (fun w' => w'.cell? ⟨B, 0, none⟩ = some (.int .i64 c) ∧ w'.cell? ⟨C, 0, none⟩ = some (.slice bo bl bc) ∧ Below w.heap.size w w')
    (first | exact ⟨hc, hc2, hB.drew⟩ | exact keep2 (by assumption) (by assumption) (Nat.le_refl _))
    (first
      | (go_at_call 103; (with_reducible refine (CN1.out _).mono ?_); rintro e w1 ⟨ao, al, ac, rfl, j1, j2, j3⟩; have j4 := nat_len j2 (by omega))
      | (go_at_call 103; (with_reducible refine (CN2.out _).mono ?_); rintro e w2 ⟨co, cl, cc, rfl, k1, k2, k3⟩; have k4 := nat_len k2 (by omega); have j5 := j2.mono k3)
      | (go_at_call 102; refine (ref_times _ _ _ _ _ _ _ _ _ j5 k2 j1 k1 (by omega) (by omega)).mono ?_; clear k1 k2 k3; rintro e w1 ⟨co, cl, cc, rfl, k1, k2, k3⟩; have k4 := nat_len k2 (by omega))
      | (go_at_call 106; refine (ref_atMost _ _ _ _ _ _ _ _ _ k2 (HN2.out.mono (held3 (by assumption))) k1 hl2 (by omega) (by omega)).mono ?_; clear k1 k2 k3; rintro e w1 ⟨rfl, k3⟩))
  go_wp2
  go_ret
  exact ⟨rfl, held3 (by assumption)⟩

set_option maxHeartbeats 4000000 in
theorem ref_share (a b c : Int) (ha : 0 ≤ a) (hac : a ≤ c) (hb : 0 ≤ b) (hb2 : b ≤ 2199023255552) (hc : 0 < c) (hc2 : c ≤ 2199023255552) (w : World) :
    Calls Try.prog 91 #[.int .i64 a, .int .i64 b, .int .i64 c] w fun e w' => e = .returned (.int .i64 (ShareP.rhu a b c)) ∧ Below w.heap.size w w' := by
  by_cases z : a = 0 ∨ b = 0
  · have hz : ShareP.rhu a b c = 0 := by
      have hab : a * b = 0 := by rcases z with rfl | rfl <;> simp
      rw [ShareP.rhu_eq a b c 0 0 hc (by rw [hab]; simp) (Int.le_refl _) hc, if_neg (by omega)]
    have HZ := Lib.hid hz
    clear hz
    by_cases za : a = 0
    · have hza : (a == 0) = true := by simp [za]
      clear z
      go_enter Try.func91, Try.ntmps91
      go_wp2_with fail
      go_ret
      exact ⟨by rw [HZ.out]; rfl, (Below.refl _ _).alloc (Nat.le_refl _) _⟩
    · have hza : (a == 0) = false := by simp [za]
      have hzb : (b == 0) = true := by simp; omega
      clear z za
      go_enter Try.func91, Try.ntmps91
      go_wp2_with fail
      go_ret
      exact ⟨by rw [HZ.out]; rfl, (Below.refl _ _).alloc (Nat.le_refl _) _⟩
  · have hza : (a == 0) = false := by simp; omega
    have hzb : (b == 0) = false := by simp; omega
    have p1 : 0 ≤ a * b := Int.mul_nonneg ha hb
    have p2 : a * b ≤ b * c := by rw [Int.mul_comm b c]; exact Int.mul_le_mul_of_nonneg_right hac hb
    have p3 : a * b ≤ 2199023255552 * 2199023255552 := Int.mul_le_mul (by omega) hb2 hb (by omega)
    have m2 : max (2 : Int) 0 = 2 := rfl
    have ma : max a 0 = a := by omega
    have mb : max b 0 = b := by omega
    have cn2 := ref_natOf 2 (by omega)
    have cna := ref_natOf a (by omega)
    have cnb := ref_natOf b (by omega)
    rw [m2] at cn2
    rw [ma] at cna
    rw [mb] at cnb
    have CN2 := Lib.hid cn2
    have CNA := Lib.hid cna
    have CNB := Lib.hid cnb
    have hbw := (Below.refl w.heap.size w).alloc (Nat.le_refl _) (.cells #[.int .i64 c] 3)
    have hcc := heap_alloc_new w (.cells #[.int .i64 c] 3)
    have HC := Lib.hid hcc
    clear cn2 cna cnb m2 ma mb z hcc
    go_enter Try.func91, Try.ntmps91
    go_wp2_with fail
    refine (CN2.out _).mono ?_
    rintro e w1 ⟨xo, xl, xc, rfl, x1, x2, x3⟩
    have x4 := nat_len x2 (by omega)
    replace HC := Lib.hid (heap_below HC.out x3)
    replace hbw := bt hbw (x3.mono (by simp))
    clear x3
    go_wp2_with fail
    refine (CNA.out _).mono ?_
    rintro e w2 ⟨yo, yl, yc, rfl, y1, y2, y3⟩
    have y4 := nat_len y2 (by omega)
    replace HC := Lib.hid (heap_below HC.out y3)
    replace x2 := x2.mono y3
    replace hbw := bt hbw y3
    clear y3
    go_wp2_with fail
    refine (CNB.out _).mono ?_
    rintro e w3 ⟨zo, zl, zc, rfl, z1, z2, z3⟩
    have z4 := nat_len z2 (by omega)
    replace HC := Lib.hid (heap_below HC.out z3)
    replace x2 := x2.mono z3
    replace y2 := y2.mono z3
    replace hbw := bt hbw z3
    clear z3
    go_wp2_with fail
    refine (ref_times _ _ _ _ _ _ _ _ _ y2 z2 y1 z1 (by omega) (by omega)).mono ?_
    clear y1 y2 y4 z1 z2 z4
    rintro e w4 ⟨yo, yl, yc, rfl, y1, y2, y3⟩
    have y4 := nat_len y2 (by omega)
    replace HC := Lib.hid (heap_below HC.out y3)
    replace x2 := x2.mono y3
    replace hbw := bt hbw y3
    clear y3
    go_wp2_with fail
    refine (ref_times _ _ _ _ _ _ _ _ _ x2 y2 x1 y1 (by omega) (by omega)).mono ?_
    clear y1 y2 y4 x1 x2 x4
    rintro e w5 ⟨yo, yl, yc, rfl, y1, y2, y3⟩
    replace HC := Lib.hid (heap_below HC.out y3)
    replace hbw := bt hbw y3
    clear y3
    have HT : VarN (w5.alloc (.cells #[.slice yo yl yc] 142)) w5.heap.size (2 * (a * b)) := ⟨yo, yl, yc, by rw [World.cell?_alloc_at] <;> rfl, y1, y2.mono ((Below.refl _ _).alloc (Nat.le_refl _) _)⟩
    replace HC := Lib.hid (heap_keep HC.out (.cells #[.slice yo yl yc] 142))
    replace hbw := hbw.alloc hbw.size (.cells #[.slice yo yl yc] 142)
    have HTT := Lib.hid HT
    clear y1 y2 HT
    go_wp2_with fail
    generalize (w5.alloc (.cells #[.slice yo yl yc] 142)) = W6 at *
    generalize w5.heap.size = X at *
    have e1 := enters_of Try.func105 (by kernel_rfl) rfl
    have hm := ref_most 105 #[.pointer (some ⟨w.heap.size, 0, none⟩), .pointer (some ⟨X, 0, none⟩)] (fun n => decide (max (2 * n - 1) 0 * c ≤ 2 * (a * b))) b W6 hb (by omega) e1
      (fun n w1 n0 n1 hb1 => (ref_share1 n c (2 * (a * b)) w.heap.size X w1 n0 (by omega) (cell_of_row _ _ 0 _ _ _ (heap_below HC.out hb1)) (HTT.out.mono hb1) hc hc2 (by omega)))
    have HM := Lib.hid hm
    clear hm e1
    refine HM.out.mono ?_
    rintro e w7 ⟨r, rfl, r0, r1, r2, r3, hb7⟩
    have hr := ShareP.rhu_most a b c r hc p1 p2 r0 r1 (r2.imp id (fun h => by simpa using h)) (r3.imp id (fun h => by simpa using h))
    have HR := Lib.hid hr
    clear hr r2 r3
    go_wp2_with fail
    go_ret
    exact ⟨by rw [← HR.out]; rfl, bt hbw hb7⟩
end Go.Proofs.Ytdhaaeaacbnghaa
