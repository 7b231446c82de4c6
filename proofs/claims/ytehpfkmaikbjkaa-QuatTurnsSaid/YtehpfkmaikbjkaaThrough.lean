/- The reference's Through: a times b through c, rounded. -/
import Derived.Test.YtehpfkmaikbjkaaNatW
import Derived.Test.YtehpfkmaikbjkaaMost
import Derived.Shelf.Abstract
import Derived.Deep.RegionHeld3
import Derived.StillTailTactics
import Derived.Test.YtehpfkmaikbjkaaRegInv
namespace Go.Proofs.Ytehpfkmaikbjkaa
open Go.ChangeShapes Go.WideShapes Go.ChangeAt Go.RowKit Go.Mem Go.Nb
set_option linter.unusedVariables false

theorem pw6 : pw 6 = 1237940039285380274899124224 := by decide +kernel
theorem nat_len {w : World} {ao : Option Addr} {len : Nat} {n : Int} (h : NatS w ao len n) (hn : n < 1237940039285380274899124224) : len ≤ 6 := h.len_le 6 (by rw [pw6]; exact hn)

/-- What the closures capture: a variable with a natural number. -/
def VarN (w : World) (B : Nat) (n : Int) : Prop := ∃ ao len cap, w.cell? ⟨B, 0, none⟩ = some (.slice ao len cap) ∧ len ≤ cap ∧ NatS w ao len n
theorem VarN.mono {w w' : World} {B : Nat} {n : Int} (h : VarN w B n) (hb : Below w.heap.size w w') : VarN w' B n := by
  obtain ⟨ao, len, cap, h1, h2, h3⟩ := h
  exact ⟨ao, len, cap, (hb.cell (World.block_lt_of_cell? w _ h1)).trans h1, h2, h3.mono hb⟩

theorem held3 {a b c : Prop} (h : a ∧ b ∧ c) : c := h.2.2
theorem keep2 {w w1 w2 : World} {B C : Nat} {u v : Value} (h : w1.cell? ⟨B, 0, none⟩ = some u ∧ w1.cell? ⟨C, 0, none⟩ = some v ∧ Below w.heap.size w w1) (hb : Below w1.heap.size w1 w2) :
    w2.cell? ⟨B, 0, none⟩ = some u ∧ w2.cell? ⟨C, 0, none⟩ = some v ∧ Below w.heap.size w w2 :=
  ⟨(hb.cell (World.block_lt_of_cell? w1 _ h.1)).trans h.1, (hb.cell (World.block_lt_of_cell? w1 _ h.2.1)).trans h.2.1, bt h.2.2 hb⟩

set_option maxHeartbeats 1000000 in
theorem ref_Through1 (n d t : Int) (B C : Nat) (w : World) (h0 : 0 ≤ n) (h1 : n ≤ 1099511627776) (hd : VarN w B d) (ht : VarN w C t) (d1 : d ≤ 1099511627776) (t1 : t ≤ 2417851639229258349412352) :
    Calls Try.prog 84 #[.int .i64 n, .pointer (some ⟨B, 0, none⟩), .pointer (some ⟨C, 0, none⟩)] w fun e w' => e = .returned (.bool (decide (max (2 * n - 1) 0 * d ≤ t))) ∧ Below w.heap.size w w' := by
  obtain ⟨ao, al, ac, hc1, hl1, hn1⟩ := hd
  obtain ⟨bo, bl, bc, hc2, hl2, hn2⟩ := ht
  have l1 := nat_len hn1 (by omega)
  have l2 := nat_len hn2 (by omega)
  have p1 := hn1.nonneg
  have p2 : 0 ≤ max (2 * n - 1) 0 * d := Int.mul_nonneg (by omega) p1
  have p3 : max (2 * n - 1) 0 * d ≤ 2199023255551 * 1099511627776 := Int.mul_le_mul (by omega) d1 p1 (by omega)
  have HN1 := Lib.hid hn1
  have HN2 := Lib.hid hn2
  clear hn1 hn2
  have hB := Below.refl w.heap.size w
  have q1 : IntKind.i64.wrap (2 * n) = 2 * n := IntWalk.i64_in _ (by omega)
  have q2 : IntKind.i64.wrap (2 * n - 1) = 2 * n - 1 := IntWalk.i64_in _ (by omega)
  go_enter Try.func84, Try.ntmps84
  go_wp2_with fail
  go_region_held3 (fun w' => w'.cell? ⟨B, 0, none⟩ = some (.slice ao al ac) ∧ w'.cell? ⟨C, 0, none⟩ = some (.slice bo bl bc) ∧ Below w.heap.size w w')
    (first | exact ⟨hc1, hc2, hB.drew⟩ | exact keep2 (by assumption) (by assumption))
    (first
      | (go_at_call 73; refine (ref_natOf _ (by omega) _).mono ?_; rintro e w1 ⟨co, cl, cc, rfl, k1, k2, k3⟩; have k4 := nat_len k2 (by omega))
      | (go_at_call 72; refine (ref_times _ _ _ _ _ _ _ _ _ k2 (HN1.out.mono (held3 (by assumption))) k1 hl1 (by omega) (by omega)).mono ?_; clear k1 k2 k3; rintro e w1 ⟨co, cl, cc, rfl, k1, k2, k3⟩; have k4 := nat_len k2 (by omega))
      | (go_at_call 75; refine (ref_atMost _ _ _ _ _ _ _ _ _ k2 (HN2.out.mono (held3 (by assumption))) k1 hl2 (by omega) (by omega)).mono ?_; clear k1 k2 k3; rintro e w1 ⟨rfl, k3⟩))
  go_wp2
  go_ret
  exact ⟨rfl, held3 (by assumption)⟩

set_option maxHeartbeats 1000000 in
theorem ref_Through2 (n d t : Int) (B C : Nat) (w : World) (h0 : 0 ≤ n) (h1 : n ≤ 1099511627776) (hd : VarN w B d) (ht : VarN w C t) (d1 : d ≤ 1099511627776) (t1 : t ≤ 2417851639229258349412352) :
    Calls Try.prog 85 #[.int .i64 n, .pointer (some ⟨C, 0, none⟩), .pointer (some ⟨B, 0, none⟩)] w fun e w' => e = .returned (.bool (decide (max (2 * n - 1) 0 * d < t))) ∧ Below w.heap.size w w' := by
  obtain ⟨ao, al, ac, hc1, hl1, hn1⟩ := hd
  obtain ⟨bo, bl, bc, hc2, hl2, hn2⟩ := ht
  have l1 := nat_len hn1 (by omega)
  have l2 := nat_len hn2 (by omega)
  have p1 := hn1.nonneg
  have p2 : 0 ≤ max (2 * n - 1) 0 * d := Int.mul_nonneg (by omega) p1
  have p3 : max (2 * n - 1) 0 * d ≤ 2199023255551 * 1099511627776 := Int.mul_le_mul (by omega) d1 p1 (by omega)
  have hres : (!decide (t ≤ max (2 * n - 1) 0 * d)) = decide (max (2 * n - 1) 0 * d < t) := by
    by_cases q : t ≤ max (2 * n - 1) 0 * d
    · rw [decide_eq_true q, decide_eq_false (by omega)]; rfl
    · rw [decide_eq_false q, decide_eq_true (by omega)]; rfl
  have HR := Lib.hid hres
  have HN1 := Lib.hid hn1
  have HN2 := Lib.hid hn2
  clear hn1 hn2 hres
  have hB := Below.refl w.heap.size w
  have q1 : IntKind.i64.wrap (2 * n) = 2 * n := IntWalk.i64_in _ (by omega)
  have q2 : IntKind.i64.wrap (2 * n - 1) = 2 * n - 1 := IntWalk.i64_in _ (by omega)
  go_enter Try.func85, Try.ntmps85
  go_wp2_with fail
  go_region_held3 (fun w' => w'.cell? ⟨B, 0, none⟩ = some (.slice ao al ac) ∧ w'.cell? ⟨C, 0, none⟩ = some (.slice bo bl bc) ∧ Below w.heap.size w w')
    (first | exact ⟨hc1, hc2, hB.drew⟩ | exact keep2 (by assumption) (by assumption))
    (first
      | (go_at_call 73; refine (ref_natOf _ (by omega) _).mono ?_; rintro e w1 ⟨co, cl, cc, rfl, k1, k2, k3⟩; have k4 := nat_len k2 (by omega))
      | (go_at_call 72; refine (ref_times _ _ _ _ _ _ _ _ _ k2 (HN1.out.mono (held3 (by assumption))) k1 hl1 (by omega) (by omega)).mono ?_; clear k1 k2 k3; rintro e w1 ⟨co, cl, cc, rfl, k1, k2, k3⟩; have k4 := nat_len k2 (by omega))
      | (go_at_call 75; refine (ref_atMost _ _ _ _ _ _ _ _ _ (HN2.out.mono (held3 (by assumption))) k2 hl2 k1 (by omega) (by omega)).mono ?_; clear k1 k2 k3; rintro e w1 ⟨rfl, k3⟩))
  go_wp2
  go_ret
  exact ⟨ret_b (by rw [← HR.out]), held3 (by assumption)⟩

/-- The three variables in the reference's Through. -/
def Vars3 (w : World) (B : Nat) (x y z : Int) : Prop := w.heap[B]? = some (.cells #[.int .i64 x] 3 (0, 0)) ∧ w.heap[B + 1]? = some (.cells #[.int .i64 y] 3 (0, 0)) ∧ w.heap[B + 1 + 1]? = some (.cells #[.int .i64 z] 3 (0, 0))

theorem Vars3.alloc {w : World} {B : Nat} {x y z : Int} (h : Vars3 w B x y z) (o : Obj) : Vars3 (w.alloc o) B x y z := by
  obtain ⟨h1, h2, h3⟩ := h
  have l1 := (Array.getElem?_eq_some_iff.1 h1).1
  have l2 := (Array.getElem?_eq_some_iff.1 h2).1
  have l3 := (Array.getElem?_eq_some_iff.1 h3).1
  exact ⟨(Below.heap_alloc _ _ _ l1).trans h1, (Below.heap_alloc _ _ _ l2).trans h2, (Below.heap_alloc _ _ _ l3).trans h3⟩
theorem Vars3.put1 {w w2 : World} {B : Nat} {x y z v : Int} (h : Vars3 w B x y z) (p : Put w w2 B 3 (.int .i64 v)) : Vars3 w2 B v y z := ⟨p.here, (p.else_ _ (by omega)).trans h.2.1, (p.else_ _ (by omega)).trans h.2.2⟩
theorem Vars3.put2 {w w2 : World} {B : Nat} {x y z v : Int} (h : Vars3 w B x y z) (p : Put w w2 (B + 1) 3 (.int .i64 v)) : Vars3 w2 B x v z := ⟨(p.else_ _ (by omega)).trans h.1, p.here, (p.else_ _ (by omega)).trans h.2.2⟩
theorem Vars3.put3 {w w2 : World} {B : Nat} {x y z v : Int} (h : Vars3 w B x y z) (p : Put w w2 (B + 1 + 1) 3 (.int .i64 v)) : Vars3 w2 B x y v := ⟨(p.else_ _ (by omega)).trans h.1, (p.else_ _ (by omega)).trans h.2.1, p.here⟩
theorem Vars3.c1 {w : World} {B : Nat} {x y z : Int} (h : Vars3 w B x y z) : w.cell? ⟨B, 0, none⟩ = some (.int .i64 x) := cell_of_row w _ _ _ _ _ h.1
theorem Vars3.c2 {w : World} {B : Nat} {x y z : Int} (h : Vars3 w B x y z) : w.cell? ⟨B + 1, 0, none⟩ = some (.int .i64 y) := cell_of_row w _ _ _ _ _ h.2.1
theorem Vars3.c3 {w : World} {B : Nat} {x y z : Int} (h : Vars3 w B x y z) : w.cell? ⟨B + 1 + 1, 0, none⟩ = some (.int .i64 z) := cell_of_row w _ _ _ _ _ h.2.2
theorem Vars3.f1 {w : World} {B : Nat} {x y z : Int} (h : Vars3 w B x y z) : w.frozen? ⟨B, 0, none⟩ = false := frozen_of_row w _ _ _ _ h.1
theorem Vars3.f2 {w : World} {B : Nat} {x y z : Int} (h : Vars3 w B x y z) : w.frozen? ⟨B + 1, 0, none⟩ = false := frozen_of_row w _ _ _ _ h.2.1
theorem Vars3.f3 {w : World} {B : Nat} {x y z : Int} (h : Vars3 w B x y z) : w.frozen? ⟨B + 1 + 1, 0, none⟩ = false := frozen_of_row w _ _ _ _ h.2.2

theorem vars3_new (w : World) (a b c : Int) : Vars3 (((w.alloc (.cells #[.int .i64 a] 3)).alloc (.cells #[.int .i64 b] 3)).alloc (.cells #[.int .i64 c] 3)) w.heap.size a b c := by
  refine ⟨?_, ?_, ?_⟩
  · rw [Below.heap_alloc _ _ _ (by simp; omega), Below.heap_alloc _ _ _ (by simp)]; exact heap_alloc_new _ _
  · rw [Below.heap_alloc _ _ _ (by simp)]; exact heap_alloc2_new _ _ _
  · have := heap_alloc_new ((w.alloc (.cells #[.int .i64 a] 3)).alloc (.cells #[.int .i64 b] 3)) (.cells #[.int .i64 c] 3)
    simpa using this
theorem three_new (w : World) (a b c : Obj) : Below w.heap.size w (((w.alloc a).alloc b).alloc c) := (((Below.refl _ _).alloc (Nat.le_refl _) _).alloc (by simp) _).alloc (by simp; omega) _

/-- After k rounds of the loop over the signs. -/
def absAt (k j : Nat) (A : Int) : Int := if k < j then A else A.natAbs
def negAt (k : Nat) (A B C : Int) : Bool := xor (if k < 1 then false else decide (A < 0)) (xor (if k < 2 then false else decide (B < 0)) (if k < 3 then false else decide (C < 0)))

/-- The value that both compute, of numbers within the limits, the last one not 0: the quotient, rounded half up. -/
def rnd (P C : Int) : Int := if 0 < C then (2 * P + C) / (2 * C) else (-(2 * P) - C) / (-(2 * C))
def thr (a b c : Int) : Int := if lim c = 0 then 0 else lim (rnd (lim a * lim b) (lim c))

theorem rnd_pos (N D r : Int) (hN : 0 ≤ N) (hD : 0 < D) (r0 : 0 ≤ r) (r1 : r ≤ 1099511627776) (h1 : r = 0 ∨ max (2 * r - 1) 0 * D ≤ 2 * N) (h2 : 1099511627776 < r + 1 ∨ ¬ max (2 * (r + 1) - 1) 0 * D ≤ 2 * N) : lim ((2 * N + D) / (2 * D)) = r := by
  have a1 : r ≤ (2 * N + D) / (2 * D) := by
    rw [Int.le_ediv_iff_mul_le (by omega)]
    rcases h1 with h1 | h1
    · subst h1; omega
    · by_cases e : r = 0
      · subst e; omega
      · rw [show max (2 * r - 1) 0 = 2 * r - 1 by omega, Int.sub_mul] at h1
        have : r * (2 * D) = 2 * r * D := by rw [Int.mul_comm 2 r, Int.mul_assoc]
        omega
  unfold lim
  rcases h2 with h2 | h2
  · repeat' split
    all_goals omega
  · have a2 : (2 * N + D) / (2 * D) < r + 1 := by
      rw [Int.ediv_lt_iff_lt_mul (by omega)]
      rw [show max (2 * (r + 1) - 1) 0 = 2 * (r + 1) - 1 by omega, Int.sub_mul] at h2
      have : (r + 1) * (2 * D) = 2 * (r + 1) * D := by rw [Int.mul_comm 2 (r + 1), Int.mul_assoc]
      omega
    repeat' split
    all_goals omega
theorem rnd_neg (N D r : Int) (hN : 0 ≤ N) (hD : 0 < D) (r0 : 0 ≤ r) (r1 : r ≤ 1099511627776) (h1 : r = 0 ∨ max (2 * r - 1) 0 * D < 2 * N) (h2 : 1099511627776 < r + 1 ∨ ¬ max (2 * (r + 1) - 1) 0 * D < 2 * N) : lim ((-(2 * N) + D) / (2 * D)) = -r := by
  have a1 : (-(2 * N) + D) / (2 * D) ≤ -r := by
    have : (-(2 * N) + D) / (2 * D) < -r + 1 := by
      rw [Int.ediv_lt_iff_lt_mul (by omega)]
      rcases h1 with h1 | h1
      · subst h1; omega
      · by_cases e : r = 0
        · subst e; omega
        · rw [show max (2 * r - 1) 0 = 2 * r - 1 by omega, Int.sub_mul] at h1
          have : (-r + 1) * (2 * D) = -(2 * r * D) + 2 * D := by rw [Int.add_mul, Int.neg_mul, Int.mul_comm 2 r, Int.mul_assoc, Int.one_mul]
          omega
    omega
  unfold lim
  rcases h2 with h2 | h2
  · repeat' split
    all_goals omega
  · have a2 : -r ≤ (-(2 * N) + D) / (2 * D) := by
      rw [Int.le_ediv_iff_mul_le (by omega)]
      rw [show max (2 * (r + 1) - 1) 0 = 2 * (r + 1) - 1 by omega, Int.sub_mul] at h2
      have : (-r) * (2 * D) = -(2 * (r + 1) * D) + 2 * D := by
        have : 2 * (r + 1) * D = 2 * r * D + 2 * D := by rw [Int.mul_add, Int.add_mul, Int.mul_one]
        rw [this, Int.neg_mul, Int.mul_comm 2 r, Int.mul_assoc]; omega
      omega
    repeat' split
    all_goals omega
set_option linter.unusedSimpArgs false in
theorem prod_abs (A B : Int) : (A * B = A.natAbs * B.natAbs ∧ (decide (A < 0) = decide (B < 0))) ∨ (A * B = -(A.natAbs * B.natAbs) ∧ decide (A < 0) = !decide (B < 0)) := by
  by_cases a : A < 0 <;> by_cases b : B < 0
  · left
    rw [show (A.natAbs : Int) = -A by omega, show (B.natAbs : Int) = -B by omega]; simp [a, b, Int.neg_mul, Int.mul_neg]
  · right
    rw [show (A.natAbs : Int) = -A by omega, show (B.natAbs : Int) = B by omega]; simp [a, b, Int.neg_mul, Int.mul_neg]
  · right
    rw [show (A.natAbs : Int) = A by omega, show (B.natAbs : Int) = -B by omega]; simp [a, b, Int.neg_mul, Int.mul_neg]
  · left
    rw [show (A.natAbs : Int) = A by omega, show (B.natAbs : Int) = B by omega]; simp [a, b, Int.neg_mul, Int.mul_neg]
theorem thr_false (A B C r : Int) (n3 : C ≠ 0) (hs : negAt 3 A B C = false) (r0 : 0 ≤ r) (r1 : r ≤ 1099511627776) (h1 : r = 0 ∨ decide (max (2 * r - 1) 0 * (C.natAbs : Int) ≤ 2 * ((A.natAbs : Int) * B.natAbs)) = true)
    (h2 : 1099511627776 < r + 1 ∨ decide (max (2 * (r + 1) - 1) 0 * (C.natAbs : Int) ≤ 2 * ((A.natAbs : Int) * B.natAbs)) = false) : lim (rnd (A * B) C) = r := by
  have hN : 0 ≤ (A.natAbs : Int) * B.natAbs := Int.mul_nonneg (by omega) (by omega)
  simp only [decide_eq_true_eq, decide_eq_false_iff_not] at h1 h2
  rw [← rnd_pos _ C.natAbs r hN (by omega) r0 r1 h1 h2]
  congr 1
  unfold rnd negAt at *
  simp only [show ¬ (3 < 1) by omega, show ¬ (3 < 2) by omega, show ¬ (3 < 3) by omega, if_false] at hs
  rcases prod_abs A B with ⟨e1, e2⟩ | ⟨e1, e2⟩ <;> rw [e1] <;> rw [e2] at hs <;> by_cases c : 0 < C
  · rw [if_pos c, show (C.natAbs : Int) = C by omega]
  · exfalso; rw [decide_eq_true (show C < 0 by omega)] at hs; simp at hs
  · exfalso; rw [decide_eq_false (show ¬ C < 0 by omega)] at hs; simp at hs
  · rw [if_neg c, show (C.natAbs : Int) = -C by omega]
    congr 1 <;> omega
theorem thr_true (A B C r : Int) (n3 : C ≠ 0) (hs : negAt 3 A B C = true) (r0 : 0 ≤ r) (r1 : r ≤ 1099511627776) (h1 : r = 0 ∨ decide (max (2 * r - 1) 0 * (C.natAbs : Int) < 2 * ((A.natAbs : Int) * B.natAbs)) = true)
    (h2 : 1099511627776 < r + 1 ∨ decide (max (2 * (r + 1) - 1) 0 * (C.natAbs : Int) < 2 * ((A.natAbs : Int) * B.natAbs)) = false) : lim (rnd (A * B) C) = -r := by
  have hN : 0 ≤ (A.natAbs : Int) * B.natAbs := Int.mul_nonneg (by omega) (by omega)
  simp only [decide_eq_true_eq, decide_eq_false_iff_not] at h1 h2
  rw [← rnd_neg _ C.natAbs r hN (by omega) r0 r1 h1 h2]
  congr 1
  unfold rnd negAt at *
  simp only [show ¬ (3 < 1) by omega, show ¬ (3 < 2) by omega, show ¬ (3 < 3) by omega, if_false] at hs
  rcases prod_abs A B with ⟨e1, e2⟩ | ⟨e1, e2⟩ <;> rw [e1] <;> rw [e2] at hs <;> by_cases c : 0 < C
  · exfalso; rw [decide_eq_false (show ¬ C < 0 by omega)] at hs; simp at hs
  · rw [if_neg c, show (C.natAbs : Int) = -C by omega]
    congr 1; omega
  · rw [if_pos c, show (C.natAbs : Int) = C by omega]
    congr 1; omega
  · exfalso; rw [decide_eq_true (show C < 0 by omega)] at hs; simp at hs

theorem rnd_zero (C : Int) : lim (rnd 0 C) = 0 := by
  have : rnd 0 C = 0 := by
    unfold rnd
    split
    · exact Int.ediv_eq_zero_of_lt (by omega) (by omega)
    · by_cases e : C = 0
      · subst e; rfl
      · exact Int.ediv_eq_zero_of_lt (by omega) (by omega)
  rw [this]; rfl

/-- A value that is a natural number. -/
def NatV (w : World) (v : Value) (n : Int) : Prop := ∃ ao len cap, v = .slice ao len cap ∧ len ≤ cap ∧ NatS w ao len n
theorem NatV.mono {w w' : World} {v : Value} {n : Int} (h : NatV w v n) (hb : Below w.heap.size w w') : NatV w' v n := by
  obtain ⟨ao, len, cap, h1, h2, h3⟩ := h
  exact ⟨ao, len, cap, h1, h2, h3.mono hb⟩
theorem NatS.put {w w2 : World} {ao : Option Addr} {len : Nat} {n : Int} {X : Nat} {t : TypeId} {v : Value} (h : NatS w ao len n) (p : Put w w2 X t v) (hX : w.heap[X]? = some (.cells #[.slice none 0 0] t (0, 0))) : NatS w2 ao len n := by
  obtain ⟨zs, h1, h2, h3, h4, h5⟩ := h
  refine ⟨zs, h1, h2, h3, h4, ?_⟩
  rcases h5 with h5 | ⟨g, k1, k2, k3⟩
  · exact Or.inl h5
  · by_cases hz : zs = []
    · exact Or.inl hz
    · have hne : g ≠ X := by
        intro e
        subst e
        have := k3 0 (List.length_pos_iff.2 hz)
        rw [cell_of_row w _ _ _ _ _ hX] at this
        simp at this
      exact Or.inr ⟨g, k1, by rw [p.size]; exact k2, fun j hj => (World.cell?_of_block (p.else_ g hne)).trans (k3 j hj)⟩
/-- A variable of the region's own that holds no slice yet. -/
def NewVar (B : Nat) (w : World) (v : Value) : Prop := ∃ X, v = .pointer (some ⟨X, 0, none⟩) ∧ B ≤ X ∧ w.heap[X]? = some (.cells #[.slice none 0 0] 77 (0, 0))
theorem NewVar.mono {B : Nat} {w w' : World} {v : Value} (h : NewVar B w v) (hb : Below w.heap.size w w') : NewVar B w' v := by
  obtain ⟨X, h1, h2, h3⟩ := h
  exact ⟨X, h1, h2, (hb.block X (Array.getElem?_eq_some_iff.1 h3).1).trans h3⟩
/-- What the operations of 'twice := ..' yield. -/
def F12 (W : Nat) (A B : Int) : Nat → Value → World → Prop
  | 0, v, w => NatV w v 2
  | 1, v, _ => v = .int .i64 A
  | 2, v, w => NatV w v A
  | 3, v, _ => v = .int .i64 B
  | 4, v, w => NatV w v B
  | 5, v, w => NatV w v (A * B)
  | 6, v, w => NatV w v (2 * (A * B))
  | 7, v, w => NewVar W w v
  | _, _, _ => True
theorem F12_mono (W : Nat) (A B : Int) : Facts (F12 W A B) := ⟨by
  intro j v w w' h hb
  unfold F12 at *
  split at h
  all_goals first | exact h | exact NatV.mono h hb | exact NewVar.mono h hb | trivial⟩

set_option maxHeartbeats 2000000 in
set_option maxRecDepth 100000 in
theorem ref_Through_raw (a b c A B C R : Int) (hA : lim a = A) (hB : lim b = B) (hC : lim c = C) (w : World) (hR : (if C = 0 then 0 else lim (rnd (A * B) C)) = R) :
    Calls Try.prog 38 #[.int .i64 a, .int .i64 b, .int .i64 c] w fun e w' => e = .returned (.int .i64 R) ∧ Below w.heap.size w w' := by
  have HR := Lib.hid hR
  clear hR
  have bA := lim_bd a
  have bB := lim_bd b
  have bC := lim_bd c
  rw [hA] at bA; rw [hB] at bB; rw [hC] at bC
  have kA : ∀ w, Calls Try.prog 27 #[.int .i64 a] w fun e w' => e = .returned (.int .i64 A) ∧ w' = w := fun w => by rw [← hA]; exact (ref_Limit a w).mono fun e w' h => ⟨h.1, h.2.symm⟩
  have kB : ∀ w, Calls Try.prog 27 #[.int .i64 b] w fun e w' => e = .returned (.int .i64 B) ∧ w' = w := fun w => by rw [← hB]; exact (ref_Limit b w).mono fun e w' h => ⟨h.1, h.2.symm⟩
  have kC : ∀ w, Calls Try.prog 27 #[.int .i64 c] w fun e w' => e = .returned (.int .i64 C) ∧ w' = w := fun w => by rw [← hC]; exact (ref_Limit c w).mono fun e w' h => ⟨h.1, h.2.symm⟩
  have KA := Lib.hid kA
  have KB := Lib.hid kB
  have KC := Lib.hid kC
  clear kA kB kC hA hB hC
  go_enter Try.func38, Try.ntmps38
  go_wp2_with fail
  have v3 := vars3_new w a b c
  have hbw := three_new w (.cells #[.int .i64 a] 3) (.cells #[.int .i64 b] 3) (.cells #[.int .i64 c] 3)
  generalize (((w.alloc (.cells #[.int .i64 a] 3)).alloc (.cells #[.int .i64 b] 3)).alloc (.cells #[.int .i64 c] 3)) = W0 at *
  replace v3 : Vars3 W0.drew w.heap.size a b c := v3
  replace hbw : Below w.heap.size w W0.drew := hbw.drew
  refine wp_region_still_tail 6 (by kernel_rfl) (by kernel_rfl) ?_
  simp only [List.take_succ_cons, List.take_zero, List.drop_succ_cons, List.drop_zero]
  change wpStill _ _ W0.drew (fun a' => wpList _ _ _ _ a' W0.drew) _ _
  generalize W0.drew = W1 at *
  have x1 := v3.c1
  have x2 := v3.c2
  have x3 := v3.c3
  still_step
  still_call (KA.out _)
  still_step
  still_call (KB.out _)
  still_step
  still_call (KC.out _)
  refine wpStill_nil ?_
  clear x1 x2 x3
  refine wpList_store_var rfl _ _ _ rfl w.heap.size (.int .i64 A) rfl rfl rfl rfl _ _ v3.1 (by kernel_rfl) ?_
  intro W2 p
  replace hbw := hbw.trans (p.below (Nat.le_refl _))
  replace v3 := v3.put1 p
  clear p
  refine wpList_store_var rfl _ _ _ rfl (w.heap.size + 1) (.int .i64 B) rfl rfl rfl rfl _ _ v3.2.1 (by kernel_rfl) ?_
  intro W3 p
  replace hbw := hbw.trans (p.below (by omega))
  replace v3 := v3.put2 p
  clear p
  refine wpList_store_var rfl _ _ _ rfl (w.heap.size + 1 + 1) (.int .i64 C) rfl rfl rfl rfl _ _ v3.2.2 (by kernel_rfl) ?_
  intro W4 p
  replace hbw := hbw.trans (p.below (by omega))
  replace v3 := v3.put3 p
  clear p W2 W3 W1 W0
  have x1 := v3.c1
  have x2 := v3.c2
  have x3 := v3.c3
  have hbz := hbw
  by_cases n1 : A = 0
  · have m1 : (A == 0) = true := by simp [n1]
    have hz : R = 0 := by
      rw [← HR.out, n1]; split; rfl; rw [Int.zero_mul]; exact rnd_zero C
    clear hbw v3
    go_wp2_with fail
    go_ret
    exact ⟨ret_i hz.symm, hbz⟩
  have m1 : (A == 0) = false := by simp [n1]
  by_cases n2 : B = 0
  · have m2 : (B == 0) = true := by simp [n2]
    have hz : R = 0 := by
      rw [← HR.out, n2]; split; rfl; rw [Int.mul_zero]; exact rnd_zero C
    clear hbw v3
    go_wp2_with fail
    go_ret
    exact ⟨ret_i hz.symm, hbz⟩
  have m2 : (B == 0) = false := by simp [n2]
  by_cases n3 : C = 0
  · have m3 : (C == 0) = true := by simp [n3]
    have hz : R = 0 := by
      rw [← HR.out, if_pos n3]
    clear hbw v3
    go_wp2_with fail
    go_ret
    exact ⟨ret_i hz.symm, hbz⟩
  have m3 : (C == 0) = false := by simp [n3]
  rw [if_neg n3] at HR
  have N3 := Lib.hid n3
  clear n1 n2 n3 hbz
  go_wp2_with fail
  replace v3 := v3.alloc (.cells #[.pointer (some ⟨w.heap.size, 0, none⟩), .pointer (some ⟨w.heap.size + 1, 0, none⟩), .pointer (some ⟨w.heap.size + 1 + 1, 0, none⟩)] 87)
  have hp := heap_alloc_new W4 (.cells #[.pointer (some ⟨w.heap.size, 0, none⟩), .pointer (some ⟨w.heap.size + 1, 0, none⟩), .pointer (some ⟨w.heap.size + 1 + 1, 0, none⟩)] 87)
  have hPw : w.heap.size + 1 + 1 < W4.heap.size := by
    have := World.block_lt_of_cell? W4 _ x3; simpa using this
  replace hbw := hbw.alloc hbw.size (.cells #[.pointer (some ⟨w.heap.size, 0, none⟩), .pointer (some ⟨w.heap.size + 1, 0, none⟩), .pointer (some ⟨w.heap.size + 1 + 1, 0, none⟩)] 87)
  obtain ⟨PB, hPB⟩ : ∃ n, n = W4.heap.size := ⟨_, rfl⟩
  rw [← hPB] at hp hPw ⊢
  generalize W4.alloc (.cells #[.pointer (some ⟨w.heap.size, 0, none⟩), .pointer (some ⟨w.heap.size + 1, 0, none⟩), .pointer (some ⟨w.heap.size + 1 + 1, 0, none⟩)] 87) = W5 at *
  clear x1 x2 x3 hPB W4 m1 m2 m3
  obtain ⟨B0, hB0⟩ : ∃ n, n = w.heap.size := ⟨_, rfl⟩
  rw [← hB0] at hp hPw v3 hbw ⊢
  have HB0 := Lib.hid hB0
  clear hB0
  go_loopw [7, 31] (fun ns i wr => ∃ (k : Nat), k ≤ 3 ∧ i = .int .i64 k ∧ ns = .bool (negAt k A B C) ∧ Vars3 wr B0 (absAt k 1 A) (absAt k 2 B) (absAt k 3 C) ∧
      wr.heap[PB]? = some (.cells #[.pointer (some ⟨B0, 0, none⟩), .pointer (some ⟨B0 + 1, 0, none⟩), .pointer (some ⟨B0 + 1 + 1, 0, none⟩)] 87 (0, 0)) ∧ Below B0 w wr) (fun _ i _ => 3 - (intOf i).toNat)
  case atStart => exact ⟨0, by omega, rfl, rfl, v3, hp, hbw⟩
  case round =>
    clear v3 hp hbw
    obtain ⟨k, hk, rfl, rfl, v3, hp, hbw⟩ := hrel
    have c1 := v3.c1
    have c2 := v3.c2
    have c3 := v3.c3
    have f1 := v3.f1
    have f2 := v3.f2
    have f3 := v3.f3
    rcases (show k = 0 ∨ k = 1 ∨ k = 2 ∨ k = 3 by omega) with rfl | rfl | rfl | rfl
    · have hpc : wr.cell? ⟨PB, 0, none⟩ = some (.pointer (some ⟨B0, 0, none⟩)) := cell_of_row wr _ _ _ _ _ hp
      have e1 : absAt 0 1 A = A := rfl
      rw [e1] at c1 v3
      clear e1 c2 c3 f2 f3
      obtain ⟨s, hs⟩ : ∃ s, s = negAt 0 A B C := ⟨_, rfl⟩
      rw [← hs]
      have r3 : absAt (0 + 1) 1 A = absAt 0 1 A ∨ 0 = 0 := by simp [absAt]
      by_cases q : A < 0
      · have R1 := Lib.hid (show absAt (0 + 1) 1 A = -A by simp [absAt]; omega)
        have R2 := Lib.hid (show negAt (0 + 1) A B C = !s by rw [hs]; simp [negAt, q])
        clear hs r3
        have V3 := Lib.hid v3
        have HP := Lib.hid hp
        clear v3 hp
        go_wp2
        go_region
        go_wp2
        go_roundw
        case rel => exact ⟨0 + 1, by omega, by go_num, by rw [R2.out], by rw [R1.out]; exact V3.out.put1 (put_setCell V3.out.1).drew, ((put_setCell (v := .int .i64 (-A)) V3.out.1).else_ _ (by omega)).trans HP.out, hbw.trans ((put_setCell V3.out.1).below (by omega)).drew⟩
        case measure => simp [intOf]
      · have R1 := Lib.hid (show absAt (0 + 1) 1 A = A by simp [absAt]; omega)
        have R2 := Lib.hid (show negAt (0 + 1) A B C = s by rw [hs]; simp [negAt, q])
        clear hs r3
        have V3 := Lib.hid v3
        have HP := Lib.hid hp
        clear v3 hp
        go_wp2
        go_roundw
        case rel => exact ⟨0 + 1, by omega, by go_num, by rw [R2.out], by rw [R1.out]; exact V3.out, HP.out, hbw⟩
        case measure => simp [intOf]
    · have hpc : wr.cell? ⟨PB, 1, none⟩ = some (.pointer (some ⟨B0 + 1, 0, none⟩)) := cell_of_row wr _ _ _ _ _ hp
      have e1 : absAt 1 2 B = B := rfl
      rw [e1] at c2 v3
      clear e1 c1 c3 f1 f3
      obtain ⟨s, hs⟩ : ∃ s, s = negAt 1 A B C := ⟨_, rfl⟩
      rw [← hs]
      have r3 : absAt (1 + 1) 1 A = absAt 1 1 A ∨ 1 = 0 := by simp [absAt]
      by_cases q : B < 0
      · have R1 := Lib.hid (show absAt (1 + 1) 2 B = -B by simp [absAt]; omega)
        have R2 := Lib.hid (show negAt (1 + 1) A B C = !s by rw [hs]; simp [negAt, q])
        clear hs r3
        have V3 := Lib.hid v3
        have HP := Lib.hid hp
        clear v3 hp
        go_wp2
        go_region
        go_wp2
        go_roundw
        case rel => exact ⟨1 + 1, by omega, by go_num, by rw [R2.out], by rw [R1.out]; exact V3.out.put2 (put_setCell V3.out.2.1).drew, ((put_setCell (v := .int .i64 (-B)) V3.out.2.1).else_ _ (by omega)).trans HP.out, hbw.trans ((put_setCell V3.out.2.1).below (by omega)).drew⟩
        case measure => simp [intOf]
      · have R1 := Lib.hid (show absAt (1 + 1) 2 B = B by simp [absAt]; omega)
        have R2 := Lib.hid (show negAt (1 + 1) A B C = s by rw [hs]; simp [negAt, q])
        clear hs r3
        have V3 := Lib.hid v3
        have HP := Lib.hid hp
        clear v3 hp
        go_wp2
        go_roundw
        case rel => exact ⟨1 + 1, by omega, by go_num, by rw [R2.out], by rw [R1.out]; exact V3.out, HP.out, hbw⟩
        case measure => simp [intOf]
    · have hpc : wr.cell? ⟨PB, 2, none⟩ = some (.pointer (some ⟨B0 + 1 + 1, 0, none⟩)) := cell_of_row wr _ _ _ _ _ hp
      have e1 : absAt 2 3 C = C := rfl
      rw [e1] at c3 v3
      clear e1 c1 c2 f1 f2
      obtain ⟨s, hs⟩ : ∃ s, s = negAt 2 A B C := ⟨_, rfl⟩
      rw [← hs]
      have r3 : absAt (2 + 1) 1 A = absAt 2 1 A ∨ 2 = 0 := by simp [absAt]
      by_cases q : C < 0
      · have R1 := Lib.hid (show absAt (2 + 1) 3 C = -C by simp [absAt]; omega)
        have R2 := Lib.hid (show negAt (2 + 1) A B C = !s by rw [hs]; simp [negAt, q])
        clear hs r3
        have V3 := Lib.hid v3
        have HP := Lib.hid hp
        clear v3 hp
        go_wp2
        go_region
        go_wp2
        go_roundw
        case rel => exact ⟨2 + 1, by omega, by go_num, by rw [R2.out], by rw [R1.out]; exact V3.out.put3 (put_setCell V3.out.2.2).drew, ((put_setCell (v := .int .i64 (-C)) V3.out.2.2).else_ _ (by omega)).trans HP.out, hbw.trans ((put_setCell V3.out.2.2).below (by omega)).drew⟩
        case measure => simp [intOf]
      · have R1 := Lib.hid (show absAt (2 + 1) 3 C = C by simp [absAt]; omega)
        have R2 := Lib.hid (show negAt (2 + 1) A B C = s by rw [hs]; simp [negAt, q])
        clear hs r3
        have V3 := Lib.hid v3
        have HP := Lib.hid hp
        clear v3 hp
        go_wp2
        go_roundw
        case rel => exact ⟨2 + 1, by omega, by go_num, by rw [R2.out], by rw [R1.out]; exact V3.out, HP.out, hbw⟩
        case measure => simp [intOf]
    · have e1 : absAt 3 1 A = A.natAbs := rfl
      have e2 : absAt 3 2 B = B.natAbs := rfl
      have e3 : absAt 3 3 C = C.natAbs := rfl
      rw [e1] at c1
      rw [e2] at c2
      rw [e3] at c3
      have l1 : B0 < wr.heap.size := World.block_lt_of_cell? wr _ c1
      have l2 : B0 + 1 < wr.heap.size := World.block_lt_of_cell? wr _ c2
      obtain ⟨s, hs⟩ : ∃ s, s = negAt 3 A B C := ⟨_, rfl⟩
      rw [← hs]
      have HS := Lib.hid hs
      clear e1 e2 e3 f1 f2 f3 v3 hp hs
      go_wp2_with (go_at_call 73; refine (ref_natOf _ (by omega) _).mono ?_; rintro e w1 ⟨do_, dl, dc, rfl, g1, g2, g3⟩; have hbw := hbw.trans (g3.mono (by omega)); have c1 := (g3.cell l1).trans c1; have c2 := (g3.cell l2).trans c2; have l1 := Nat.lt_of_lt_of_le l1 g3.size; have l2 := Nat.lt_of_lt_of_le l2 g3.size)
      have hd : VarN (w1.alloc (.cells #[.slice do_ dl dc] 77)) w1.heap.size C.natAbs := ⟨do_, dl, dc, by rw [World.cell?_alloc_at] <;> rfl, g1, by
        have : max (C.natAbs : Int) 0 = C.natAbs := by omega
        rw [this] at g2; exact g2.mono ((Below.refl _ _).alloc (Nat.le_refl _) _)⟩
      replace c1 : (w1.alloc (.cells #[.slice do_ dl dc] 77)).cell? ⟨B0, 0, none⟩ = some (.int .i64 A.natAbs) := (World.cell?_of_block (Below.heap_alloc _ _ _ l1)).trans c1
      replace c2 : (w1.alloc (.cells #[.slice do_ dl dc] 77)).cell? ⟨B0 + 1, 0, none⟩ = some (.int .i64 B.natAbs) := (World.cell?_of_block (Below.heap_alloc _ _ _ l2)).trans c2
      replace hbw := hbw.alloc (by have := l1; omega) (.cells #[.slice do_ dl dc] 77)
      have l3 : w1.heap.size < (w1.alloc (.cells #[.slice do_ dl dc] 77)).heap.size := by simp
      obtain ⟨D, hD⟩ : ∃ n, n = w1.heap.size := ⟨_, rfl⟩
      rw [← hD] at hd l3 ⊢
      replace l1 : B0 < (w1.alloc (.cells #[.slice do_ dl dc] 77)).heap.size := by simp; omega
      replace l2 : B0 + 1 < (w1.alloc (.cells #[.slice do_ dl dc] 77)).heap.size := by simp; omega
      generalize w1.alloc (.cells #[.slice do_ dl dc] 77) = W6 at *
      clear g1 g2 g3 hD w1 c3
      have eN := enters_of Try.func73 (by kernel_rfl) rfl
      have eT := enters_of Try.func72 (by kernel_rfl) rfl
      have hAB : (A.natAbs : Int) * B.natAbs ≤ 1099511627776 * 1099511627776 := Int.mul_le_mul (by omega) (by omega) (by omega) (by omega)
      have hAB0 : 0 ≤ (A.natAbs : Int) * B.natAbs := Int.mul_nonneg (by omega) (by omega)
      refine wp_region_facts rfl 8 (by kernel_rfl) (F12 W6.heap.size A.natAbs B.natAbs) (F12_mono _ _ _) ?_ ?_
      · refine ⟨?_, ?_, ?_, ?_, ?_, ?_, ?_, ?_, trivial⟩
        · intro vs w' F hb hd hF hl
          refine one_call _ _ rfl rfl eN #[.int .i64 2] (eval1 rfl) ?_
          refine (ref_natOf 2 (by omega) _).mono ?_
          rintro e w2 ⟨ao, al, ac, rfl, g1, g2, g3⟩
          exact ⟨_, rfl, _, rfl, g3, ao, al, ac, rfl, g1, g2⟩
        · intro vs w' F hb hd hF hl
          obtain ⟨v0, v1, v2, v3, v4, v5, v6, v7, v8, rfl⟩ := list9 hl
          exact one_load _ _ rfl rfl ⟨B0, 0, none⟩ _ (hF 3) ((hb.cell l1).trans c1) (by kernel_rfl) ⟨_, rfl, Below.refl _ _, rfl⟩
        · intro vs w' F hb hd hF hl
          have h := dep_of hd 1 (by kernel_rfl)
          obtain ⟨v0, v1, v2, v3, v4, v5, v6, v7, v8, rfl⟩ := list9 hl
          refine one_call _ _ rfl rfl eN #[.int .i64 A.natAbs] (eval1 ((hF 51).trans h)) ?_
          refine (ref_natOf _ (by omega) _).mono ?_
          rintro e w2 ⟨ao, al, ac, rfl, g1, g2, g3⟩
          have : max (A.natAbs : Int) 0 = A.natAbs := by omega
          rw [this] at g2
          exact ⟨_, rfl, _, rfl, g3, ao, al, ac, rfl, g1, g2⟩
        · intro vs w' F hb hd hF hl
          obtain ⟨v0, v1, v2, v3, v4, v5, v6, v7, v8, rfl⟩ := list9 hl
          exact one_load _ _ rfl rfl ⟨B0 + 1, 0, none⟩ _ (hF 4) ((hb.cell l2).trans c2) (by kernel_rfl) ⟨_, rfl, Below.refl _ _, rfl⟩
        · intro vs w' F hb hd hF hl
          have h := dep_of hd 3 (by kernel_rfl)
          obtain ⟨v0, v1, v2, v3, v4, v5, v6, v7, v8, rfl⟩ := list9 hl
          refine one_call _ _ rfl rfl eN #[.int .i64 B.natAbs] (eval1 ((hF 53).trans h)) ?_
          refine (ref_natOf _ (by omega) _).mono ?_
          rintro e w2 ⟨ao, al, ac, rfl, g1, g2, g3⟩
          have : max (B.natAbs : Int) 0 = B.natAbs := by omega
          rw [this] at g2
          exact ⟨_, rfl, _, rfl, g3, ao, al, ac, rfl, g1, g2⟩
        · intro vs w' F hb hd hF hl
          have ha := dep_of hd 2 (by kernel_rfl)
          have hb2 := dep_of hd 4 (by kernel_rfl)
          obtain ⟨v0, v1, v2, v3, v4, v5, v6, v7, v8, rfl⟩ := list9 hl
          obtain ⟨ao, al, ac, he1, he2, he3⟩ := ha
          obtain ⟨bo, bl, bc, hf1, hf2, hf3⟩ := hb2
          refine one_call _ _ rfl rfl eT #[.slice ao al ac, .slice bo bl bc] (eval2 ((hF 52).trans he1) ((hF 54).trans hf1)) ?_
          refine (ref_times _ _ _ _ _ _ _ _ _ he3 hf3 he2 hf2 (by have := nat_len he3 (by omega); omega) (by have := nat_len hf3 (by omega); omega)).mono ?_
          rintro e w2 ⟨co, cl, cc, rfl, g1, g2, g3⟩
          exact ⟨_, rfl, _, rfl, g3, co, cl, cc, rfl, g1, g2⟩
        · intro vs w' F hb hd hF hl
          have ha := dep_of hd 0 (by kernel_rfl)
          have hb2 := dep_of hd 5 (by kernel_rfl)
          obtain ⟨v0, v1, v2, v3, v4, v5, v6, v7, v8, rfl⟩ := list9 hl
          obtain ⟨ao, al, ac, he1, he2, he3⟩ := ha
          obtain ⟨bo, bl, bc, hf1, hf2, hf3⟩ := hb2
          refine one_call _ _ rfl rfl eT #[.slice ao al ac, .slice bo bl bc] (eval2 ((hF 50).trans he1) ((hF 55).trans hf1)) ?_
          refine (ref_times _ _ _ _ _ _ _ _ _ he3 hf3 he2 hf2 (by have := nat_len he3 (by omega); omega) (by have := nat_len hf3 (by omega); omega)).mono ?_
          rintro e w2 ⟨co, cl, cc, rfl, g1, g2, g3⟩
          exact ⟨_, rfl, _, rfl, g3, co, cl, cc, rfl, g1, g2⟩
        · intro vs w' F hb hd hF hl
          exact one_alloc _ rfl rfl (.slice none 0 0) (by kernel_rfl) rfl ⟨_, rfl, (Below.refl _ _).alloc (Nat.le_refl _) _, _, rfl, hb.size, heap_alloc_new _ _⟩
      · intro vs w' hl hb hI
        have h6 := hI 6 (by omega)
        have h7 := hI 7 (by omega)
        obtain ⟨v0, v1, v2, v3, v4, v5, v6, v7, v8, rfl⟩ := list9 hl
        obtain ⟨co, cl, cc, h6, g1, g2⟩ := h6
        obtain ⟨T, h7, g3, g4⟩ := h7
        have hd2 := hd.mono hb
        refine wpList_store_var rfl _ _ _ rfl T _ ((eval_fill _ 11 _ _).trans h7) ((eval_fill _ 56 _ _).trans h6) rfl rfl _ _ g4 (by kernel_rfl) ?_
        intro W7 p
        have hbw7 := hbw.trans ((hb.mono (by omega)).trans (p.below (by omega)))
        have ht : VarN W7 T (2 * (A.natAbs * B.natAbs)) := ⟨co, cl, cc, cell_of_row _ _ _ _ _ _ p.here, g1, NatS.put g2 p g4⟩
        have hd7 : VarN W7 D C.natAbs := by
          obtain ⟨do_, dl, dc, k1, k2, k3⟩ := hd2
          exact ⟨do_, dl, dc, (World.cell?_of_block (p.else_ D (by omega))).trans k1, k2, NatS.put k3 p g4⟩
        have h7b := h7
        clear hd2 g1 g2 g3 g4 hbw hd p c1 c2 hb hI h6 h7
        have h7' : v7 = .pointer (some ⟨T, 0, none⟩) := h7b
        subst h7'
        clear h7b
        simp only [fillAll]
        rcases s with _ | _
        · have e1 := enters_of Try.func84 (by kernel_rfl) rfl
          have hm := ref_most 84 #[.pointer (some ⟨D, 0, none⟩), .pointer (some ⟨T, 0, none⟩)] (fun n => decide (max (2 * n - 1) 0 * (C.natAbs : Int) ≤ 2 * ((A.natAbs : Int) * B.natAbs))) 1099511627776 W7 (by omega) (by omega) e1
            (fun n w1 h0 h1 hb => ref_Through1 n C.natAbs (2 * (A.natAbs * B.natAbs)) D T w1 h0 h1 (hd7.mono hb) (ht.mono hb) (by omega) (by omega))
          go_wp2_with (go_at_call 67; refine hm.mono ?_; clear hm; rintro e w8 ⟨r, rfl, r0, r1, q1, q2, hb8⟩)
          go_ret
          exact ⟨ret_i ((thr_false A B C r N3.out HS.out.symm r0 r1 q1 q2).symm.trans HR.out), bt (HB0.out ▸ hbw7) hb8⟩
        · have e1 := enters_of Try.func85 (by kernel_rfl) rfl
          have hm := ref_most 85 #[.pointer (some ⟨T, 0, none⟩), .pointer (some ⟨D, 0, none⟩)] (fun n => decide (max (2 * n - 1) 0 * (C.natAbs : Int) < 2 * ((A.natAbs : Int) * B.natAbs))) 1099511627776 W7 (by omega) (by omega) e1
            (fun n w1 h0 h1 hb => ref_Through2 n C.natAbs (2 * (A.natAbs * B.natAbs)) D T w1 h0 h1 (hd7.mono hb) (ht.mono hb) (by omega) (by omega))
          go_wp2_with (go_at_call 67; refine hm.mono ?_; clear hm; rintro e w8 ⟨r, rfl, r0, r1, q1, q2, hb8⟩)
          go_ret
          exact ⟨ret_i (by rw [← HR.out, thr_true A B C r N3.out HS.out.symm r0 r1 q1 q2]), bt (HB0.out ▸ hbw7) hb8⟩

theorem ref_Through (a b c : Int) (w : World) : Calls Try.prog 38 #[.int .i64 a, .int .i64 b, .int .i64 c] w fun e w' => e = .returned (.int .i64 (thr a b c)) ∧ Below w.heap.size w w' :=
  ref_Through_raw a b c _ _ _ _ rfl rfl rfl w rfl
end Go.Proofs.Ytehpfkmaikbjkaa
