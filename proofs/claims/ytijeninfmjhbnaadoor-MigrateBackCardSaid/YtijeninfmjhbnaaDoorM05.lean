/- Lemmas for the law MigrateBack: HighW, Mem3, RegInv. No conditions. -/
import Derived.Test.YtijeninfmjhbnaaDoorM02
import Derived.BigQuiet
import Derived.Deep.QuietTactic
import Derived.Lib.MinMax
import Derived.Deep.RegionHeld3
import Derived.Test.YtijeninfmjhbnaaDoorM01
import Derived.Test.YtijeninfmjhbnaaDoorM04
import Derived.Laws.MakeOwn
import Derived.Test.YtijeninfmjhbnaaDoorM03
import Derived.WalkKit
import Derived.ProofKit
import Derived.Orders
import Derived.StillTail
import Derived.Shelf.Abstract
import Derived.Laws.Rows
/- kind.High, Near; ref Top, Nearest. -/
section
namespace Go.Proofs.YtijeninfmjhbnaaDoor
open Go.ChangeShapes Go.WideShapes Go.ChangeAt Go.RowKit Go.Nm Go.Mem
set_option linter.unusedVariables false
theorem pow_bd (n : Nat) (h : n ≤ 32) : 1 ≤ (2 : Int) ^ n ∧ (2 : Int) ^ n ≤ 4294967296 := by
  have h1 : 1 ≤ 2 ^ n := Nat.one_le_two_pow
  have h2 : 2 ^ n ≤ 2 ^ 32 := Nat.pow_le_pow_right (by decide) h
  have e : (2 : Int) ^ n = ((2 ^ n : Nat) : Int) := by simp
  rw [e]
  have e2 : (2 : Nat) ^ 32 = 4294967296 := rfl
  omega
theorem pow_in (n : Nat) (h : n ≤ 32) : wrap64 ((2 : Int) ^ n) = 2 ^ n := by
  have := pow_bd n h
  exact IntWalk.wrap64_in _ ⟨by omega, by omega⟩
set_option maxHeartbeats 1000000 in
theorem High_ok (s : ByteArray) (n : Nat) (l : Int) (hs : s.size ≤ 9223372036854775807) (hf : fieldB s n l = true) (h1 : 1 ≤ n) (h2 : n ≤ 32) (h3 : -4294967296 ≤ l) (h4 : l ≤ 4294967296) (w : World) : Calls Tryd.prog 60 #[.agg #[.string s, .int .i64 n, .int .i64 l]] w fun e w' => e = .returned (.int .i64 (l + (2 ^ n - 1))) ∧ Below w.heap.size w w' := by
  have C := fun W => kind_field s n l hs W
  rw [hf] at C
  have C := Lib.hid C
  clear hf hs
  go_enter Tryd.func60, Tryd.ntmps60
  go_wp2_with fail
  refine (C.out _).mono ?_
  rintro e w1 ⟨rfl, hb1⟩
  have c1 : w1.cell? ⟨w.heap.size, 1, none⟩ = some (.int .i64 n) := by rw [hb1.cell (p := ⟨w.heap.size, 1, none⟩) (by simp)]; simp
  have c2 : w1.cell? ⟨w.heap.size, 2, none⟩ = some (.int .i64 l) := by rw [hb1.cell (p := ⟨w.heap.size, 2, none⟩) (by simp)]; simp
  go_wp2_with fail
  go_quiet (fail)
  go_wp2_with fail
  go_ret
  refine ⟨?_, below_drewN (((Below.refl w.heap.size w).alloc (Nat.le_refl _) (.cells #[.string s, .int .i64 n, .int .i64 l] 40)).trans (hb1.mono (by simp))) _⟩
  rw [pow_in n h2]
  obtain ⟨P, hP⟩ : ∃ P : Int, P = 2 ^ n := ⟨_, rfl⟩
  have hb := pow_bd n h2
  rw [← hP] at hb ⊢
  show Ending.returned (.int .i64 (wrap64 (l + wrap64 (P - 1)))) = _
  rw [IntWalk.wrap64_in (P - 1) ⟨by omega, by omega⟩, IntWalk.wrap64_in _ ⟨by omega, by omega⟩]
set_option maxHeartbeats 1000000 in
theorem High_bad (s : ByteArray) (b l : Int) (hs : s.size ≤ 9223372036854775807) (hf : fieldB s b l = false) (w : World) : Calls Tryd.prog 60 #[.agg #[.string s, .int .i64 b, .int .i64 l]] w fun e w' => e = .returned (.int .i64 0) ∧ Below w.heap.size w w' := by
  have C := fun W => kind_field s b l hs W
  rw [hf] at C
  have C := Lib.hid C
  clear hf hs
  go_enter Tryd.func60, Tryd.ntmps60
  go_wp2_with fail
  refine (C.out _).mono ?_
  rintro e w1 ⟨rfl, hb1⟩
  go_wp2_with fail
  go_ret
  exact ⟨rfl, (((Below.refl w.heap.size w).alloc (Nat.le_refl _) (.cells #[.string s, .int .i64 b, .int .i64 l] 40)).trans (hb1.mono (by simp)))⟩
set_option maxHeartbeats 1000000 in
theorem Near_bad (s : ByteArray) (b l v : Int) (hs : s.size ≤ 9223372036854775807) (hf : fieldB s b l = false) (w : World) : Calls Tryd.prog 67 #[.agg #[.string s, .int .i64 b, .int .i64 l], .int .i64 v] w fun e w' => e = .returned (.int .i64 0) ∧ Below w.heap.size w w' := by
  have C := fun W => kind_field s b l hs W
  rw [hf] at C
  have C := Lib.hid C
  clear hf hs
  go_enter Tryd.func67, Tryd.ntmps67
  go_wp2_with fail
  refine (C.out _).mono ?_
  rintro e w1 ⟨rfl, hb1⟩
  go_wp2_with fail
  go_ret
  exact ⟨rfl, (((Below.refl w.heap.size w).alloc (Nat.le_refl _) (.cells #[.string s, .int .i64 b, .int .i64 l] 40)).trans (hb1.mono (by simp)))⟩
def topF (n : Nat) (l : Int) : Int := l + (2 ^ n - 1)
def nearF (n : Nat) (l v : Int) : Int := max l (min v (topF n l))
set_option maxHeartbeats 2000000 in
theorem Near_ok (s : ByteArray) (n : Nat) (l v : Int) (hs : s.size ≤ 9223372036854775807) (hf : fieldB s n l = true) (h1 : 1 ≤ n) (h2 : n ≤ 32) (h3 : -4294967296 ≤ l) (h4 : l ≤ 4294967296) (w : World) : Calls Tryd.prog 67 #[.agg #[.string s, .int .i64 n, .int .i64 l], .int .i64 v] w fun e w' => e = .returned (.int .i64 (nearF n l v)) ∧ Below w.heap.size w w' := by
  have C := fun W => kind_field s n l hs W
  rw [hf] at C
  have C := Lib.hid C
  obtain ⟨T, hT⟩ : ∃ T, T = topF n l := ⟨_, rfl⟩
  have D := fun W => High_ok s n l hs hf h1 h2 h3 h4 W
  have hd : l + (2 ^ n - 1) = T := hT.symm
  rw [hd] at D
  have D := Lib.hid D
  unfold nearF
  rw [← hT]
  clear hf hs hd hT
  go_enter Tryd.func67, Tryd.ntmps67
  go_wp2_with fail
  refine (C.out _).mono ?_
  rintro e w1 ⟨rfl, hb1⟩
  have c0 : w1.cell? ⟨w.heap.size, 0, none⟩ = some (.string s) := by rw [hb1.cell (p := ⟨w.heap.size, 0, none⟩) (by simp)]; simp
  have c1 : w1.cell? ⟨w.heap.size, 1, none⟩ = some (.int .i64 n) := by rw [hb1.cell (p := ⟨w.heap.size, 1, none⟩) (by simp)]; simp
  have c2 : w1.cell? ⟨w.heap.size, 2, none⟩ = some (.int .i64 l) := by rw [hb1.cell (p := ⟨w.heap.size, 2, none⟩) (by simp)]; simp
  have hb : Below w.heap.size w w1 := ((Below.refl w.heap.size w).alloc (Nat.le_refl _) (.cells #[.string s, .int .i64 n, .int .i64 l] 40)).trans (hb1.mono (by simp))
  go_wp2_with fail
  go_region_held3 (fun w' => w'.cell? ⟨w.heap.size, 0, none⟩ = some (.string s) ∧ w'.cell? ⟨w.heap.size, 1, none⟩ = some (.int .i64 n) ∧ w'.cell? ⟨w.heap.size, 2, none⟩ = some (.int .i64 l) ∧ Below w.heap.size w w')
    (first | exact ⟨c0, c1, c2, hb.drew⟩ | assumption | exact keep3 (by assumption) (by assumption) (Nat.le_refl _))
    ((go_at_call 60; refine (D.out _).mono ?_; rintro e w8 ⟨rfl, hb8⟩))
  go_wp2
  go_ret
  exact ⟨rfl, lastk3 (by assumption)⟩
set_option maxHeartbeats 1000000 in
theorem ref_Top (s : ByteArray) (n : Nat) (l : Int) (h2 : n ≤ 32) (h3 : -4294967296 ≤ l) (h4 : l ≤ 4294967296) (w : World) : Calls Tryd.prog 36 #[.agg #[.string s, .int .i64 n, .int .i64 l]] w fun e w' => e = .returned (.int .i64 (topF n l)) ∧ w.alloc (.cells #[.string s, .int .i64 n, .int .i64 l] 40) = w' := by
  go_enter Tryd.func36, Tryd.ntmps36
  go_wp2_with fail
  go_loopg [3, 6] n (fun gk v3 vi wx => ∃ (k : Nat) (P : Int), k ≤ n ∧ gk = n - k ∧ vi = .int .i64 k ∧ v3 = .int .i64 P ∧ P = 2 ^ k ∧ 1 ≤ P ∧ P ≤ 4294967296 ∧ wx = w.alloc (.cells #[.string s, .int .i64 n, .int .i64 l] 40))
  case atStart => exact ⟨0, 1, Nat.zero_le _, rfl, rfl, rfl, by simp, by omega, by omega, rfl⟩
  case round =>
    obtain ⟨k, P, hk, g2, rfl, rfl, hP, p1, p2, rfl⟩ := hrel
    have G2 := Lib.hid g2
    have HP := Lib.hid hP
    clear g2 hP
    by_cases hlt : k < n
    · go_wp2_with fail
      go_roundg (n - (k + 1))
      case measure => rw [G2.out]; omega
      case rel =>
        have h5 := pow_bd (k + 1) (by omega)
        have h6 : P * 2 = 2 ^ (k + 1) := by rw [HP.out, Int.pow_succ]
        exact ⟨k + 1, P * 2, hlt, rfl, by go_num, rfl, h6, by omega, by omega, rfl⟩
    · have hke : k = n := by omega
      have HK := Lib.hid hke
      clear hke
      go_wp2_with fail
      go_ret
      refine ⟨?_, rfl⟩
      unfold topF
      rw [← HK.out, ← HP.out]
      show Ending.returned (.int .i64 (l + P - 1)) = _
      rw [Int.add_sub_assoc]
set_option maxHeartbeats 1000000 in
theorem Nearest_bad (s : ByteArray) (b l v : Int) (hs : s.size ≤ 9223372036854775807) (hf : fieldB s b l = false) (w : World) : Calls Tryd.prog 35 #[.agg #[.string s, .int .i64 b, .int .i64 l], .int .i64 v] w fun e w' => e = .returned (.int .i64 0) ∧ Below w.heap.size w w' := by
  have C := fun W => ref_FieldOK s b l hs W
  rw [hf] at C
  have C := Lib.hid C
  clear hf hs
  go_enter Tryd.func35, Tryd.ntmps35
  go_wp2_with fail
  refine (C.out _).mono ?_
  rintro e w1 ⟨rfl, hb1⟩
  go_wp2_with fail
  go_ret
  exact ⟨rfl, (((Below.refl w.heap.size w).alloc (Nat.le_refl _) (.cells #[.string s, .int .i64 b, .int .i64 l] 40)).trans (hb1.mono (by simp)))⟩
set_option maxHeartbeats 2000000 in
theorem Nearest_ok (s : ByteArray) (n : Nat) (l v : Int) (hs : s.size ≤ 9223372036854775807) (hf : fieldB s n l = true) (h1 : 1 ≤ n) (h2 : n ≤ 32) (h3 : -4294967296 ≤ l) (h4 : l ≤ 4294967296) (w : World) : Calls Tryd.prog 35 #[.agg #[.string s, .int .i64 n, .int .i64 l], .int .i64 v] w fun e w' => e = .returned (.int .i64 (nearF n l v)) ∧ Below w.heap.size w w' := by
  have C := fun W => ref_FieldOK s n l hs W
  rw [hf] at C
  have C := Lib.hid C
  have ht : l ≤ topF n l := by unfold topF; have := pow_bd n h2; omega
  obtain ⟨T, hT⟩ : ∃ T, T = topF n l := ⟨_, rfl⟩
  have D := fun W => ref_Top s n l h2 h3 h4 W
  rw [← hT] at D
  have D := Lib.hid D
  unfold nearF
  rw [← hT] at ht ⊢
  clear hf hs hT
  by_cases a1 : v < l
  · have HV := Lib.hid (show max l (min v T) = l by omega)
    go_enter Tryd.func35, Tryd.ntmps35
    go_wp2_with fail
    refine (C.out _).mono ?_
    rintro e w1 ⟨rfl, hb1⟩
    have c2 : w1.cell? ⟨w.heap.size, 2, none⟩ = some (.int .i64 l) := by rw [hb1.cell (p := ⟨w.heap.size, 2, none⟩) (by simp)]; simp
    have hb : Below w.heap.size w w1 := ((Below.refl w.heap.size w).alloc (Nat.le_refl _) (.cells #[.string s, .int .i64 n, .int .i64 l] 40)).trans (hb1.mono (by simp))
    have HB := Lib.hid hb
    clear hb
    go_wp2_with fail
    go_ret
    exact ⟨by rw [HV.out]; rfl, HB.out⟩
  · by_cases a2 : T < v
    · have HV := Lib.hid (show max l (min v T) = T by omega)
      go_enter Tryd.func35, Tryd.ntmps35
      go_wp2_with fail
      refine (C.out _).mono ?_
      rintro e w1 ⟨rfl, hb1⟩
      have hb : Below w.heap.size w w1 := ((Below.refl w.heap.size w).alloc (Nat.le_refl _) (.cells #[.string s, .int .i64 n, .int .i64 l] 40)).trans (hb1.mono (by simp))
      have HB := Lib.hid hb
      have hz : w.heap.size < w1.heap.size := by have := hb1.size; simp at this; omega
      have c0 : w1.cell? ⟨w.heap.size, 0, none⟩ = some (.string s) := by rw [hb1.cell (p := ⟨w.heap.size, 0, none⟩) (by simp)]; simp
      have c1 : w1.cell? ⟨w.heap.size, 1, none⟩ = some (.int .i64 n) := by rw [hb1.cell (p := ⟨w.heap.size, 1, none⟩) (by simp)]; simp
      have c2 : w1.cell? ⟨w.heap.size, 2, none⟩ = some (.int .i64 l) := by rw [hb1.cell (p := ⟨w.heap.size, 2, none⟩) (by simp)]; simp
      clear hb
      go_wp2_with (go_at_call 36; refine (D.out _).mono ?_; rintro e w8 ⟨rfl, rfl⟩)
      go_ret
      exact ⟨by rw [HV.out]; rfl, (HB.out.alloc HB.out.size _).alloc (by simp; have := HB.out.size; omega) _⟩
    · have HV := Lib.hid (show max l (min v T) = v by omega)
      go_enter Tryd.func35, Tryd.ntmps35
      go_wp2_with fail
      refine (C.out _).mono ?_
      rintro e w1 ⟨rfl, hb1⟩
      have hb : Below w.heap.size w w1 := ((Below.refl w.heap.size w).alloc (Nat.le_refl _) (.cells #[.string s, .int .i64 n, .int .i64 l] 40)).trans (hb1.mono (by simp))
      have HB := Lib.hid hb
      have hz : w.heap.size < w1.heap.size := by have := hb1.size; simp at this; omega
      have c0 : w1.cell? ⟨w.heap.size, 0, none⟩ = some (.string s) := by rw [hb1.cell (p := ⟨w.heap.size, 0, none⟩) (by simp)]; simp
      have c1 : w1.cell? ⟨w.heap.size, 1, none⟩ = some (.int .i64 n) := by rw [hb1.cell (p := ⟨w.heap.size, 1, none⟩) (by simp)]; simp
      have c2 : w1.cell? ⟨w.heap.size, 2, none⟩ = some (.int .i64 l) := by rw [hb1.cell (p := ⟨w.heap.size, 2, none⟩) (by simp)]; simp
      clear hb
      go_wp2_with (go_at_call 36; refine (D.out _).mono ?_; rintro e w8 ⟨rfl, rfl⟩)
      go_ret
      exact ⟨by rw [HV.out]; rfl, HB.out.alloc HB.out.size _⟩
end Go.Proofs.YtijeninfmjhbnaaDoor
end
/- Rows of elements of several cells: made, and written. No program is named here. -/
section
namespace Go
open Go.RowKit
namespace Mem
/-- Block g is a row of N cells. -/
def Blk (w : World) (g : Nat) (t : TypeId) (N : Nat) : Prop := ∃ cs, w.heap[g]? = some (.cells cs t (0, 0)) ∧ cs.size = N
theorem Blk.lt {w : World} {g : Nat} {t : TypeId} {N : Nat} (h : Blk w g t N) : g < w.heap.size := by obtain ⟨cs, h1, _⟩ := h; exact lt_of_heap h1
theorem Blk.below {w w' : World} {g : Nat} {t : TypeId} {N : Nat} (h : Blk w g t N) (hb : Below w.heap.size w w') : Blk w' g t N := by obtain ⟨cs, h1, h2⟩ := h; exact ⟨cs, heap_below h1 hb, h2⟩
theorem Blk.set {w : World} {g : Nat} {t : TypeId} {N : Nat} (h : Blk w g t N) (i : Nat) (v : Value) : Blk (w.setCell ⟨g, i, none⟩ v) g t N := by
  obtain ⟨cs, h1, h2⟩ := h
  exact ⟨_, heap_set h1 i v, by simpa using h2⟩
theorem Blk.far {w : World} {g : Nat} {t : TypeId} {N : Nat} (h : Blk w g t N) {p : Addr} (hne : g ≠ p.block) (v : Value) : Blk (w.setCell p v) g t N := by
  obtain ⟨cs, h1, h2⟩ := h
  exact ⟨_, heap_far h1 hne v, h2⟩
theorem Blk.cell {w : World} {g : Nat} {t : TypeId} {N : Nat} (h : Blk w g t N) (i : Nat) (hi : i < N) : ∃ v, w.cell? ⟨g, i, none⟩ = some v := by
  obtain ⟨cs, h1, h2⟩ := h
  rw [cell_of_row w g i _ _ _ h1]
  exact ⟨cs[i]'(by omega), Array.getElem?_eq_getElem (by omega)⟩
theorem Blk.frozen {w : World} {g : Nat} {t : TypeId} {N : Nat} (h : Blk w g t N) (i : Nat) : w.frozen? ⟨g, i, none⟩ = false := by
  obtain ⟨cs, h1, _⟩ := h; exact Mem.frozen_of_row h1 i
theorem wpList_make_blk {P : Program} {ops : Array Oper} {rest : List Oper} {o : Oper} {a : Act} {w : World} {Q : Exit → Act → World → Prop}
    (hg : o.guard = none) (l c : Operand) (t : TypeId) (hop : o.op = Op.makeSlice t l c) (e : TypeId) (z : Value) (sz bytes : Nat) (h1 : P.underlying t = some (.slice e)) (h2 : (P.info? e).map (fun i => (i.zero, i.size, i.bytes)) = some (some z, sz, bytes))
    (kl kc : IntKind) (L C : Int) (n : Nat) (hl : a.eval l = .int kl L) (hc : a.eval c = .int kc C) (hL : L = (n : Int)) (hC : C = (n : Int)) (b2 : bytes * n ≤ 281474976710656) (b3 : n ≤ maxLen)
    (hK : ∀ w2, Blk w2 w.heap.size e (n * sz) → Below w.heap.size w w2 → w2.heap.size = w.heap.size + 1 → wpList P ops Q rest (a.put o.dst (.slice (some ⟨w.heap.size, 0, none⟩) n n)) w2) :
    wpList P ops Q (o :: rest) a w := by
  refine wpList_plain hg fun K hK' => ?_
  obtain ⟨i, hi, hz, hs, hby⟩ := info_parts h2
  subst hL
  subst hC
  have hb : (i.bytes : Int) * (n : Int) ≤ 281474976710656 := by
    have h : ((i.bytes * n : Nat) : Int) ≤ 281474976710656 := by rw [hby]; omega
    rwa [Int.natCast_mul] at h
  have hr := run_make (P := P) w t e i z h1 hi hz kl kc n n (by omega) (by omega) hb (by unfold maxLen at b3; omega)
  simp only [Int.toNat_natCast] at hr
  unfold Oper.wp
  simp [execOp, hop, hl, hc, hr, Result.andThen, Oper.upon]
  refine hK' _ _ (hK _ ⟨_, heap_alloc_new _ _, ?_⟩ ((Below.refl _ _).alloc (Nat.le_refl _) _) (by simp))
  rw [size_madeCells, hs]
theorem list10 {α : Type} {vs : List α} (h : vs.length = 10) : ∃ a b c d e f g i j k, vs = [a, b, c, d, e, f, g, i, j, k] := by
  match vs, h with
  | [a, b, c, d, e, f, g, i, j, k], _ => exact ⟨a, b, c, d, e, f, g, i, j, k, rfl⟩
theorem add_nextN (x : Addr) (i r : Nat) (h : 0 < r) : x.add (i + r) = ⟨(x.add i).block, (x.add i).off + r, none⟩ := by
  unfold Addr.add
  by_cases h0 : i = 0
  · subst h0; rw [if_neg (by omega), if_pos rfl, Nat.zero_add]
  · rw [if_neg (by omega), if_neg h0]; simp [Nat.add_assoc]
theorem cell_set_ne {w : World} {p q : Addr} {v : Value} (h : p ≠ q) : (w.setCell p v).cell? q = w.cell? q := World.cell?_setCell_other (h := h) ..
theorem cell_set_eq {w : World} {p : Addr} {u v : Value} (h : w.cell? p = some u) : (w.setCell p v).cell? p = some v := World.cell?_setCell_same (h := h) ..
theorem add_zero_block (G i : Nat) : (⟨G, 0, none⟩ : Addr).add i = ⟨G, i, none⟩ := by
  unfold Addr.add
  by_cases h : i = 0
  · rw [if_pos h, h]
  · rw [if_neg h]; simp
/-- The cells behind an address that is asked for only where there is one. -/
def CellsAt (w : World) (a : Option Addr) (us : List Value) : Prop := 0 < us.length → ∃ x, a = some x ∧ x.block < w.heap.size ∧ ∀ j u, us[j]? = some u → w.cell? (x.add j) = some u
/-- 'append(v, s...)' of a slice of whatever elements, whatever it is, v nil or the call's own. -/
theorem wpList_append_cells {P : Program} {w : World} {ops : Array Oper} {rest : List Oper} {o : Oper} {a : Act} {Q : Exit → Act → World → Prop} (hgd : o.guard = none) (s x : Operand) (t : TypeId)
    (ho : o.op = .call { callee := .builtin .append, args := #[s, x], argTypes := #[t, t] })
    (base : Nat) (e : TypeId) (z : Value) (sz bytes : Nat) (ht : P.underlying t = some (.slice e)) (hi : (P.info? e).map (fun i => (i.zero, i.size, i.bytes)) = some (some z, sz, bytes)) (hzs : z.cells.size = sz) (hsz : 0 < sz)
    (v : Value) (n : Nat) (xs : List Value) (hs : a.eval s = v) (hown : w.ownsRow base e sz v n xs)
    (A : Option Addr) (m c : Nat) (zs : List Value) (hx : a.eval x = .slice A m c) (hm : zs.length = m * sz) (hr : CellsAt w A zs) (hone : ∀ u ∈ zs, u.oneCell' = true)
    (hn : n + m ≤ maxLen) (hbytes : (n + m) * bytes ≤ 140737488355328) (hbase : base ≤ w.heap.size)
    (h : ∀ v' w', w'.ownsRow base e sz v' (n + m) (xs ++ zs) → w.grownBy w' v.ownBlock → (v'.ownBlock = v.ownBlock ∨ v'.ownBlock = some w.heap.size) → wpList P ops Q rest (a.put o.dst v') w') :
    wpList P ops Q (o :: rest) a w := by
  obtain ⟨i, hi1, hi2, hi3, hi4⟩ := info_parts hi
  have key : ∃ v' w', (Builtin.append_ #[t, t] o.type #[v, .slice A m c]).run P w = .ok v' w' ∧ w'.ownsRow base e sz v' (n + m) (xs ++ zs) ∧ w.grownBy w' v.ownBlock ∧ (v'.ownBlock = v.ownBlock ∨ v'.ownBlock = some w.heap.size) := by
    by_cases h0 : m = 0
    · subst h0
      have hz : zs = [] := List.eq_nil_of_length_eq_zero (by omega)
      subst hz
      rcases A with _ | ad
      · refine ⟨v, w, ?_, by simpa using hown, World.grownBy.refl w _, .inl rfl⟩
        rcases hown.2 with ⟨rfl, rfl⟩ | ⟨g, cap, cur, rfl, _, _, hnc, _⟩
        · simp [Builtin.append_, run_underlying ht, sizeOf, typeInfo, hi1, Builtin.lenOf, Builtin.firstCells]
        · simp [Builtin.append_, run_underlying ht, sizeOf, typeInfo, hi1, Builtin.lenOf, Builtin.firstCells, hnc, storeCells]
      · obtain ⟨v', w', hrun, h2, h3, _, h5⟩ := run_append_own_at (P := P) w base t o.type e i z sz bytes ht hi1 hi2 hi3 hi4 hzs hsz v n _ hown ad 0 c [] (by simp) (by simp) (by simp) hn hbytes hbase
        exact ⟨v', w', hrun, by simpa using h2, h3, h5⟩
    · obtain ⟨ad, rfl, _, hc⟩ := hr (by rw [hm]; exact Nat.mul_pos (by omega) hsz)
      obtain ⟨v', w', hrun, h2, h3, _, h5⟩ := run_append_own_at (P := P) w base t o.type e i z sz bytes ht hi1 hi2 hi3 hi4 hzs hsz v n _ hown ad m c zs hm hc hone hn hbytes hbase
      exact ⟨v', w', hrun, h2, h3, h5⟩
  obtain ⟨v', w', hrun, h2, h3, h4⟩ := key
  refine wpList_plain hgd fun K hK => ?_
  unfold Oper.wp execOp
  simp only [ho, resolve, invoke, builtin, Sem.run_bind, Sem.run_pure, Result.andThen_ok, List.map_toArray, List.map_cons, List.map_nil, hs, hx, hrun]
  exact hK _ _ (h v' w' h2 h3 h4)
end Mem
end Go
end
/- A region that draws its order, walked by an invariant: one obligation for each operation, whatever was done before it. No program is named here. -/
section
namespace Go.Mem
open Go.Proofs

/-- The frame, with what the region's operations have left in their slots. -/
def fillAll (a0 : Act) : List Oper → List Value → Act
  | o :: os, v :: vs => (fillAll a0 os vs).put o.dst v
  | _, _ => a0

/-- What a slot holds in such a frame. -/
def look (a0 : Act) (t : Nat) : List Oper → List Value → Value
  | o :: os, v :: vs => if o.dst = some t ∧ t < a0.tmps.size then v else look a0 t os vs
  | _, _ => a0.eval (.tmp t)
theorem fillAll_size (a0 : Act) : ∀ (ops : List Oper) (vs : List Value), (fillAll a0 ops vs).tmps.size = a0.tmps.size
  | [], _ => rfl
  | _ :: _, [] => rfl
  | o :: os, v :: vs => by
    show ((fillAll a0 os vs).put o.dst v).tmps.size = _
    cases h : o.dst with
    | none => exact fillAll_size a0 os vs
    | some d => simp [Act.put, fillAll_size a0 os vs]
theorem fillAll_defers (a0 : Act) : ∀ (ops : List Oper) (vs : List Value), (fillAll a0 ops vs).defers = a0.defers
  | [], _ => rfl
  | _ :: _, [] => rfl
  | o :: os, v :: vs => by
    show ((fillAll a0 os vs).put o.dst v).defers = _
    cases h : o.dst with
    | none => exact fillAll_defers a0 os vs
    | some d => simp [Act.put, fillAll_defers a0 os vs]
theorem eval_fill (a0 : Act) (t : Nat) : ∀ (ops : List Oper) (vs : List Value), (fillAll a0 ops vs).eval (.tmp t) = look a0 t ops vs
  | [], _ => rfl
  | _ :: _, [] => rfl
  | o :: os, v :: vs => by
    show ((fillAll a0 os vs).put o.dst v).eval (.tmp t) = _
    unfold look
    rw [← eval_fill a0 t os vs]
    cases h : o.dst with
    | none => simp [Act.put]
    | some d =>
      have hs := fillAll_size a0 os vs
      by_cases e : d = t
      · subst e
        by_cases hlt : d < a0.tmps.size
        · simp [Act.put, Act.eval, Array.getD_eq_getD_getElem?, hlt, hs]
        · simp [Act.put, Act.eval, Array.getD_eq_getD_getElem?, hlt, hs]
      · simp [Act.put, Act.eval, Array.getD_eq_getD_getElem?, e]
theorem put_put_same (a : Act) (d : Option Tmp) (u v : Value) : (a.put d u).put d v = a.put d v := by
  cases d with
  | none => rfl
  | some d => simp [Act.put]
theorem put_put_comm (a : Act) (d e : Option Tmp) (u v : Value) (h : d = none ∨ e = none ∨ d ≠ e) : (a.put d u).put e v = (a.put e v).put d u := by
  cases d with
  | none => rfl
  | some d =>
    cases e with
    | none => rfl
    | some e =>
      have hne : d ≠ e := by rcases h with h | h | h; cases h; cases h; exact fun x => h (by rw [x])
      simp only [Act.put, Array.setIfInBounds_comm u v hne]
def distinctB : List Oper → Bool
  | [] => true
  | o :: r => r.all (fun x => x.dst == none || o.dst == none || x.dst != o.dst) && distinctB r
theorem fillAll_set (a0 : Act) : ∀ (ops : List Oper) (vs : List Value) (i : Nat) (o : Oper) (v : Value), distinctB ops = true → ops[i]? = some o → i < vs.length → (fillAll a0 ops vs).put o.dst v = fillAll a0 ops (vs.set i v)
  | [], _, i, o, v, _, h, _ => by simp at h
  | x :: os, [], i, o, v, _, _, h => by simp at h
  | x :: os, u :: vs, 0, o, v, _, h, _ => by
    simp at h; subst h
    exact put_put_same _ _ _ _
  | x :: os, u :: vs, i + 1, o, v, hd, h, hl => by
    simp only [distinctB, Bool.and_eq_true] at hd
    have ho : os[i]? = some o := by simpa using h
    have := List.all_eq_true.1 hd.1 o (List.mem_of_getElem? ho)
    show ((fillAll a0 os vs).put x.dst u).put o.dst v = (fillAll a0 os (vs.set i v)).put x.dst u
    rw [put_put_comm, fillAll_set a0 os vs i o v hd.2 ho (by simpa using hl)]
    simp only [Bool.or_eq_true, beq_iff_eq, bne_iff_ne] at this
    rcases this with (h' | h') | h'
    · exact Or.inr (Or.inl h')
    · exact Or.inl h'
    · exact Or.inr (Or.inr (fun e => h' e.symm))
/-- A region's values: what is known of operation j's value once it is done; it must last while memory grows. -/
structure Facts (Fact : Nat → Value → World → Prop) : Prop where
  mono : ∀ j v w w', Fact j v w → RowKit.Below w.heap.size w w' → Fact j v w'

section
variable (P : Program) (ops : List Oper) (Q : Exit → Act → World → Prop) (a0 : Act) (W0 : World) (Fact : Nat → Value → World → Prop)

/-- What stands behind operation i. -/
def QOne (w : World) (i : Nat) (o : Oper) (F : Act) : Exit → Act → World → Prop
  | .normal, a, w' => ∃ v : Value, a = F.put o.dst v ∧ RowKit.Below w.heap.size w w' ∧ Fact i v w'
  | e, a, w => Q e a w

/-- What is owed for operation i. -/
def OblOne (i : Nat) (o : Oper) : Prop := ∀ (vs : List Value) (w : World) (F : Act), RowKit.Below W0.heap.size W0 w → (∀ e ∈ o.after, Region.binds .any e = true → Fact e.on (vs.getD e.on undef) w) → (∀ t, F.eval (.tmp t) = look a0 t ops vs) → vs.length = ops.length → wpList P ops.toArray (QOne Q Fact w i o F) [o] F w
def Obl : List Oper → Nat → Prop
  | [], _ => True
  | o :: r, i => OblOne P ops Q a0 W0 Fact i o ∧ Obl r (i + 1)
end

theorem Obl.get {P : Program} {ops : List Oper} {Q : Exit → Act → World → Prop} {a0 : Act} {W0 : World} {Fact : Nat → Value → World → Prop} : ∀ {l : List Oper} {k : Nat}, Obl P ops Q a0 W0 Fact l k → ∀ {i : Nat} {o : Oper}, l[i]? = some o → OblOne P ops Q a0 W0 Fact (k + i) o
  | [], _, _, i, o, h => by simp at h
  | x :: r, k, H, 0, o, h => by simp at h; subst h; exact H.1
  | x :: r, k, H, i + 1, o, h => by
    have := H.2.get (i := i) (o := o) (by simpa using h)
    rwa [show k + 1 + i = k + (i + 1) by omega] at this

def acyclicB (ops : List Oper) : Bool := (ops.zipIdx).all fun x => x.1.after.all fun e => !Region.binds .any e || decide (e.on < x.2)

def unl (l : List Bool) : Nat := (l.filter (!·)).length
theorem unl_set : ∀ (l : List Bool) (i : Nat), l[i]? = some false → unl (l.set i true) + 1 = unl l
  | [], i, h => by simp at h
  | b :: r, 0, h => by simp at h; subst h; simp [unl]
  | b :: r, i + 1, h => by
    have := unl_set r i (by simpa using h)
    unfold unl at *
    cases b <;> simp at * <;> omega
theorem unl_zero {l : List Bool} (h : unl l = 0) : ∀ b ∈ l, b = true := by
  intro b hb
  unfold unl at h
  have := List.length_eq_zero_iff.1 h
  rw [List.filter_eq_nil_iff] at this
  have := this b hb
  simpa using this
theorem first_false : ∀ (l : List Bool), 0 < unl l → ∃ i : Nat, l[i]? = some false ∧ ∀ j : Nat, j < i → l[j]? = some true
  | [], h => by simp [unl] at h
  | false :: r, _ => ⟨0, rfl, fun j hj => by omega⟩
  | true :: r, h => by
    obtain ⟨i, h1, h2⟩ := first_false r (by simpa [unl] using h)
    refine ⟨i + 1, by simpa using h1, fun j hj => ?_⟩
    cases j with
    | zero => rfl
    | succ j => simpa using h2 j (by omega)

/-- What the slots hold before the region runs. -/
def origs (a0 : Act) (ops : List Oper) : List Value := ops.map fun o => match o.dst with | some d => a0.tmps.getD d undef | none => undef
theorem put_self (a : Act) (d : Tmp) : a.put (some d) (a.tmps.getD d undef) = a := by
  cases a with
  | mk tmps defers =>
    simp only [Act.put]
    congr 1
    apply Array.ext_getElem?
    intro i
    rw [Array.getElem?_setIfInBounds]
    by_cases e : d = i
    · subst e
      by_cases h : d < tmps.size <;> simp [h]
    · simp [e]
theorem fillAll_origs (a0 : Act) : ∀ ops : List Oper, fillAll a0 ops (origs a0 ops) = a0
  | [] => rfl
  | o :: os => by
    show (fillAll a0 os (origs a0 os)).put o.dst _ = a0
    rw [fillAll_origs a0 os]
    rcases o with ⟨dst, op, gd, af⟩
    cases dst with
    | none => rfl
    | some d => exact put_self a0 d

/-- Each operation from n on waits for all that stand before it. -/
def tailB (ops : List Oper) (n : Nat) : Bool := (ops.zipIdx).all fun x => decide (x.2 < n) || (List.range x.2).all fun i => x.1.after.any fun e => Region.binds .any e && e.on == i
def headTail (n m : Nat) : Array Bool := (List.replicate n true ++ List.replicate m false).toArray

theorem wp_region_facts {P : Program} {id : Nat} {ops : List Oper} {Q : Exit → Act → World → Prop} {a0 : Act} {w0 : World} (hm : P.follows .mixedOrders = true) (n : Nat)
    (hac : (acyclicB ops && distinctB ops && tailB ops n && Region.seqB .any ops.toArray (ops.drop n).length n (headTail n (ops.length - n)) && decide (n ≤ ops.length)) = true)
    (Fact : Nat → Value → World → Prop) (hF : Facts Fact)
    (hstep : Obl P ops Q a0 w0 Fact (ops.take n) 0)
    (hend : ∀ (vs : List Value) (w : World), vs.length = ops.length → RowKit.Below w0.heap.size w0 w → (∀ j, j < n → Fact j (vs.getD j undef) w) → wpList P ops.toArray Q (ops.drop n) (fillAll a0 ops vs) w) :
    (Code.region id ops.toArray true).wp P Q a0 w0 := by
  simp only [Bool.and_eq_true, decide_eq_true_eq] at hac
  obtain ⟨⟨⟨⟨hac, hdis⟩, htl⟩, hseq⟩, hn⟩ := hac
  refine wp_region_any hm ?_
  have key : ∀ (fuel : Nat) (listed : Array Bool) (vs : List Value) (w : World), listed.size = ops.length → vs.length = ops.length → unl listed.toList = fuel → (∀ t, n ≤ t → t < ops.length → listed.getD t true = false) →
      RowKit.Below w0.heap.size w0 w → (∀ j, j < ops.length → listed.getD j true = true → Fact j (vs.getD j undef) w) → wpAny P .any ops.toArray Q fuel listed (fillAll a0 ops vs) w := by
    intro fuel
    induction fuel with
    | zero =>
      intro listed vs w hs hvl hu ht hb hI
      have hall : ∀ j, listed.getD j true = true := by
        intro j
        by_cases hj : j < listed.size
        · exact unl_zero hu (listed.getD j true) (by simp [hj])
        · simp [hj]
      have hno : n = ops.length := by
        rcases Nat.lt_or_ge n ops.length with h | h
        · have h1 := ht n (Nat.le_refl _) h; rw [hall n] at h1; cases h1
        · omega
      have hd : ops.drop n = [] := by rw [hno]; simp
      have := hend vs w hvl hb (fun j hj => hI j (by omega) (hall j))
      rw [hd] at this
      refine ⟨?_, this⟩
      unfold Region.ready
      rw [List.filter_eq_nil_iff]
      intro i hi
      simp [hall i]
    | succ fuel ih =>
      intro listed vs w hs hvl hu ht hb hI
      by_cases hpre : ∀ j, j < n → listed.getD j true = true
      · -- the head is done: the tail, in its one order
        have hL : listed = headTail n (ops.length - n) := by
          unfold headTail
          apply Array.ext
          · simp; omega
          · intro i h1 h2
            have e : listed[i] = listed.getD i true := by simp [h1]
            rw [e]
            by_cases hi : i < n
            · rw [hpre i hi]; simp [hi]
            · rw [ht i (by omega) (by omega)]; simp [List.getElem_append, hi]
        have hf : fuel + 1 = (ops.drop n).length := by
          rw [← hu, hL]; simp [headTail, unl]
        rw [hf]
        refine wpAny_of_seq (ops.drop n) n listed _ w (fun j => by simp [List.getElem?_drop]) (by rw [hL]; exact hseq) ?_
        exact hend vs w hvl hb (fun j hj => hI j (by omega) (hpre j hj))
      · constructor
        · intro hr
          exfalso
          obtain ⟨i, h1, h2⟩ := first_false listed.toList (by omega)
          have hi : i < listed.size := by
            have := (List.getElem?_eq_some_iff.1 h1).1; simpa using this
          have hio : i < ops.length := by omega
          have hmem : i ∈ Region.ready .any ops.toArray listed := by
            unfold Region.ready
            rw [List.mem_filter]
            refine ⟨by simp; omega, ?_⟩
            have hl : listed.getD i true = false := by simp [Array.getD_eq_getD_getElem?, ← Array.getElem?_toList, h1]
            rw [hl]
            have ho : ops.toArray[i]? = some ops[i] := by simp [hio]
            rw [ho]
            simp only [Option.map_some, Option.getD_some, Bool.not_false, Bool.true_and, Array.all_eq_true_iff_forall_mem]
            intro e he
            unfold acyclicB at hac
            have := List.all_eq_true.1 hac (ops[i], i) (by rw [List.mem_zipIdx_iff_getElem?]; simp [hio])
            have := (Array.all_eq_true_iff_forall_mem.1 this) e he
            simp only [Bool.or_eq_true, Bool.not_eq_true', decide_eq_true_eq] at this ⊢
            rcases this with h | h
            · exact Or.inl h
            · right
              have := h2 e.on h
              simp [Array.getD_eq_getD_getElem?, ← Array.getElem?_toList, this]
          rw [hr] at hmem
          cases hmem
        · intro i hi
          unfold Region.ready at hi
          rw [List.mem_filter] at hi
          obtain ⟨hir, hi⟩ := hi
          have hio : i < ops.length := by simpa using hir
          have hoA : ops.toArray[i]? = some ops[i] := by simp [hio]
          rw [hoA] at hi
          simp only [Option.map_some, Option.getD_some, Bool.and_eq_true, Bool.not_eq_true', Array.all_eq_true_iff_forall_mem] at hi
          obtain ⟨hl, hdep⟩ := hi
          have hdep' : ∀ e ∈ (ops[i]).after, Region.binds .any e = true → e.on < listed.size ∧ listed.getD e.on true = true := by
            intro e he hbd
            have := hdep e he
            rw [hbd] at this
            simp only [Bool.not_true, Bool.false_or] at this
            by_cases hb : e.on < listed.size
            · exact ⟨hb, by simpa [hb] using this⟩
            · simp [hb] at this
          have hin : i < n := by
            rcases Nat.lt_or_ge i n with h | h
            · exact h
            · exfalso
              apply hpre
              intro j hj
              unfold tailB at htl
              have := List.all_eq_true.1 htl (ops[i], i) (by rw [List.mem_zipIdx_iff_getElem?]; simp [hio])
              simp only [Bool.or_eq_true, decide_eq_true_eq] at this
              rcases this with h' | h'
              · omega
              · have := List.all_eq_true.1 h' j (by simp; omega)
                obtain ⟨e, he, hbe⟩ := Array.any_eq_true'.1 this
                simp only [Bool.and_eq_true, beq_iff_eq] at hbe
                have := (hdep' e he hbe.1).2
                rwa [hbe.2] at this
          have ho : ops[i]? = some ops[i] := by simp [hio]
          have hot : (ops.take n)[i]? = some ops[i] := by rw [List.getElem?_take, if_pos hin]; exact ho
          have hl' : listed.toList[i]? = some false := by
            have hlt : i < listed.size := by omega
            have : listed.getD i true = listed[i] := by simp [hlt]
            rw [this] at hl
            rw [Array.getElem?_toList, Array.getElem?_eq_getElem hlt, hl]
          have hstep' := hstep.get hot
          rw [Nat.zero_add] at hstep'
          have H := hstep' vs w (fillAll a0 ops vs) hb (fun e he hbd => hI e.on (by have := (hdep' e he hbd).1; omega) (hdep' e he hbd).2) (fun t => eval_fill a0 t ops vs) hvl
          have hnext : ∀ (a' : Act) (w' : World), QOne Q Fact w i ops[i] (fillAll a0 ops vs) .normal a' w' → wpAny P .any ops.toArray Q fuel (listed.setIfInBounds i true) a' w' := by
            rintro a' w' ⟨v, rfl, hb', hv⟩
            rw [fillAll_set a0 ops vs i ops[i] v hdis ho (by omega)]
            refine ih _ (vs.set i v) w' (by simpa using hs) (by simpa using hvl) ?_ ?_ (hb.trans (hb'.mono hb.size)) ?_
            · have := unl_set listed.toList i hl'
              rw [Array.toList_setIfInBounds]; omega
            · intro t h1 h2
              rw [Array.getD_eq_getD_getElem?, Array.getElem?_setIfInBounds, if_neg (by omega), ← Array.getD_eq_getD_getElem?]
              exact ht t h1 h2
            · intro j hj hlj
              by_cases e : j = i
              · subst e
                rw [List.getD_eq_getElem?_getD, List.getElem?_set_self (by omega)]
                exact hv
              · rw [List.getD_eq_getElem?_getD, List.getElem?_set_ne (by omega), ← List.getD_eq_getElem?_getD]
                refine hF.mono _ _ _ _ (hI j hj ?_) hb'
                rwa [Array.getD_eq_getD_getElem?, Array.getElem?_setIfInBounds, if_neg (by omega), ← Array.getD_eq_getD_getElem?] at hlj
          unfold wpOp
          rw [hoA]
          simp only
          unfold wpList at H
          split
          · rename_i hw
            rw [if_pos hw] at H
            have conv : ∀ {K : Act → World → Prop}, (ops[i]).wp P (fillAll a0 ops vs) w K (QOne Q Fact w i ops[i] (fillAll a0 ops vs)) → (ops[i]).wp P (fillAll a0 ops vs) w K Q := by
              intro K hh
              unfold Oper.wp at *
              generalize (execOp (fillAll a0 ops vs).eval ops[i]).run P w = r at *
              cases r with
              | ok n w' =>
                cases n <;> simp only [Oper.upon] at hh ⊢ <;>
                  first
                    | exact hh
                    | (refine Calls.mono hh (fun e w'' he => ?_)
                       cases e with
                       | returned v => exact he
                       | panicked c => exact he
                       | outgrown =>
                         obtain ⟨a1, w1, hq⟩ := he
                         exact ⟨a1, w1, hq⟩)
              | halt x w' => cases x <;> simp only [Oper.upon] at hh ⊢ <;> exact hh
            rcases H with H | ⟨hasks, a1, w1, hq⟩
            · left
              refine conv (Oper.wp_mono (fun a w h => ?_) H)
              exact hnext _ _ h
            · right
              exact ⟨hasks, a1, w1, hq⟩
          · rename_i hw
            rw [if_neg hw] at H
            exact hnext _ _ H
  have hrep : unl (Array.replicate ops.toArray.size false).toList = ops.toArray.size := by
    simp [unl]
  have := key ops.toArray.size (Array.replicate ops.toArray.size false) (origs a0 ops) w0.drew (by simp) (by simp [origs]) hrep (fun t h1 h2 => by simp [h2]) (RowKit.Below.refl _ _).drew (fun j hj h => by simp [hj] at h)
  rwa [fillAll_origs] at this

/-- What an operation that this one waits for has left. -/
theorem dep_of {Fact : Nat → Value → World → Prop} {vs : List Value} {w : World} {o : Oper} (hd : ∀ e ∈ o.after, Region.binds .any e = true → Fact e.on (vs.getD e.on undef) w) (j : Nat)
    (h : (o.after.any fun e => Region.binds .any e && e.on == j) = true) : Fact j (vs.getD j undef) w := by
  obtain ⟨e, he, hb⟩ := Array.any_eq_true'.1 h
  simp only [Bool.and_eq_true, beq_iff_eq] at hb
  have := hd e he hb.1
  rwa [hb.2] at this
theorem look_out (a0 : Act) (t : Nat) : ∀ (ops : List Oper) (vs : List Value), (ops.all fun o => o.dst != some t) = true → look a0 t ops vs = a0.eval (.tmp t)
  | [], _, _ => rfl
  | _ :: _, [], _ => rfl
  | o :: os, v :: vs, h => by
    simp only [List.all_cons, Bool.and_eq_true, bne_iff_ne] at h
    unfold look
    rw [if_neg (fun hh => h.1 hh.1), look_out a0 t os vs h.2]
theorem look_at (a0 : Act) (t : Nat) : ∀ (j : Nat) (ops : List Oper) (vs : List Value), ((ops[j]?).map (·.dst) == some (some t) && decide (t < a0.tmps.size)) = true → ((ops.take j).all fun o => o.dst != some t) = true → vs.length = ops.length → look a0 t ops vs = vs.getD j undef
  | j, [], _, h, _, _ => by simp at h
  | j, _ :: _, [], _, _, h => by simp at h
  | 0, o :: os, v :: vs, h, _, _ => by
    simp only [List.getElem?_cons_zero, Option.map_some, Bool.and_eq_true, beq_iff_eq, decide_eq_true_eq, Option.some.injEq] at h
    unfold look
    rw [if_pos h]; rfl
  | j + 1, o :: os, v :: vs, h, h2, hl => by
    simp only [List.take_succ_cons, List.all_cons, Bool.and_eq_true, bne_iff_ne] at h2
    unfold look
    rw [if_neg (fun hh => h2.1 hh.1), look_at a0 t j os vs (by simpa using h) (by simpa using h2.2) (by simpa using hl)]
    simp
theorem list9 {vs : List Value} (h : vs.length = 9) : ∃ a b c d e f g i j, vs = [a, b, c, d, e, f, g, i, j] := by
  match vs, h with
  | [a, b, c, d, e, f, g, i, j], _ => exact ⟨a, b, c, d, e, f, g, i, j, rfl⟩
theorem eval2 {F : Act} {x y : Operand} {u v : Value} (hx : F.eval x = u) (hy : F.eval y = v) : #[x, y].map F.eval = #[u, v] := by simp [hx, hy]
theorem eval3 {F : Act} {x y z : Operand} {u v t : Value} (hx : F.eval x = u) (hy : F.eval y = v) (hz : F.eval z = t) : #[x, y, z].map F.eval = #[u, v, t] := by simp [hx, hy, hz]
theorem eval1 {F : Act} {x : Operand} {u : Value} (hx : F.eval x = u) : #[x].map F.eval = #[u] := by simp [hx]

/-! The operations, one by one, in whatever frame. -/
section
variable {P : Program} {ops : Array Oper} {o : Oper} {F : Act} {w : World} {Q : Exit → Act → World → Prop}
theorem one_call {f : FuncId} (args : Array Operand) (T : Array TypeId) (hgd : o.guard = none) (ho : o.op = .call { callee := .value (.func f), args := args, argTypes := T }) (hE : ∀ (args : Array Value) (w : World), (callFunc f args).run P w = .ok (.enter f args) w)
    (vals : Array Value) (hv : args.map F.eval = vals) (h : Calls P f vals w fun e w' => ∃ v, e = .returned v ∧ Q .normal (F.put o.dst v) w') : wpList P ops Q [o] F w := by
  refine wpList_plain hgd fun K hK => ?_
  unfold Oper.wp execOp
  simp [ho, resolve, Deferred.ofValue, invoke, hv, Act.eval, hE, Oper.upon]
  exact h.mono (fun e w' ⟨v, he, hq⟩ => by subst he; exact hK _ _ hq)

theorem one_load0 (ty : TypeId) (x : Operand) (hgd : o.guard = none) (ho : o.op = .load ty x) (ad : Addr) (v : Value) (hx : F.eval x = .pointer (some ad)) (hc : w.cell? ad = some v)
    (d : TypeDesc) (hu : P.underlying ty = some d) (hd : (match d with | .struct _ | .array _ _ => true | _ => false) = false) (h : Q .normal (F.put o.dst v) w) : wpList P ops Q [o] F w := by
  refine wpList_plain hgd fun K hK => ?_
  unfold Oper.wp execOp
  simp [ho, hx, Instr.loadAt, Instr.sureAddr, loadVar, run_isAgg_plain hu hd, hc, Oper.upon]
  exact hK _ _ h

theorem one_load (ty : TypeId) (x : Operand) (hgd : o.guard = none) (ho : o.op = .load ty x) (ad : Addr) (v : Value) (hx : F.eval x = .pointer (some ad)) (hc : w.cell? ad = some v)
    (hu : (P.underlying ty).map (fun d => match d with | .struct _ | .array _ _ => true | _ => false) = some false) (h : Q .normal (F.put o.dst v) w) : wpList P ops Q [o] F w := by
  obtain ⟨d, hd, he⟩ := Option.map_eq_some_iff.1 hu
  exact one_load0 ty x hgd ho ad v hx hc d hd (by cases d <;> first | rfl | simp at he) h

theorem one_alloc (e : TypeId) (hgd : o.guard = none) (ho : o.op = .alloc e) (z : Value) (hz : (P.info? e).map (fun i => (i.zero, i.size)) = some (some z, 1)) (hc : z.cells = #[z])
    (h : Q .normal (F.put o.dst (.pointer (some ⟨w.heap.size, 0, none⟩))) (w.alloc (.cells #[z] e))) : wpList P ops Q [o] F w := by
  refine wpList_plain hgd fun K hK => ?_
  obtain ⟨i, hi, hzz⟩ := Option.map_eq_some_iff.1 hz
  simp only [Prod.mk.injEq] at hzz
  unfold Oper.wp execOp
  simp [ho, Instr.alloc, zeroValue, typeInfo, hi, hzz.1, newVar, hc, Oper.upon]
  exact hK _ _ h

theorem one_field (ty : TypeId) (x : Operand) (k : Nat) (hgd : o.guard = none) (ho : o.op = .fieldAddr ty x k) (B i : Nat) (hx : F.eval x = .pointer (some ⟨B, i, none⟩)) (n : Nat)
    (hi : ∀ w : World, (Instr.fieldAt ty (.pointer (some ⟨B, i, none⟩)) k).run P w = .ok (.pointer (some ⟨B, n, none⟩)) w) (h : Q .normal (F.put o.dst (.pointer (some ⟨B, n, none⟩))) w) : wpList P ops Q [o] F w := by
  refine wpList_plain hgd fun K hK => ?_
  unfold Oper.wp execOp
  simp [ho, hx, hi, Oper.upon]
  exact hK _ _ h

theorem one_build (ty : TypeId) (parts : Array (Nat × Operand)) (hgd : o.guard = none) (ho : o.op = .build ty parts) (vals : Array (Nat × Value)) (hx : parts.map (fun p => (p.1, F.eval p.2)) = vals) (v : Value)
    (hi : ∀ w : World, (Instr.build ty vals).run P w = .ok v w) (h : Q .normal (F.put o.dst v) w) : wpList P ops Q [o] F w := by
  refine wpList_plain hgd fun K hK => ?_
  unfold Oper.wp execOp
  have hx' : parts.map (fun x => match x with | (i, x) => (i, F.eval x)) = vals := hx
  simp [ho, hx', hi, Oper.upon]
  exact hK _ _ h
theorem parts2 {F : Act} {i j : Nat} {x y : Operand} {u v : Value} (hx : F.eval x = u) (hy : F.eval y = v) : #[(i, x), (j, y)].map (fun p => (p.1, F.eval p.2)) = #[(i, u), (j, v)] := by simp [hx, hy]
theorem parts4 {F : Act} {i j k l : Nat} {x y z t : Operand} {u v p q : Value} (hx : F.eval x = u) (hy : F.eval y = v) (hz : F.eval z = p) (ht : F.eval t = q) : #[(i, x), (j, y), (k, z), (l, t)].map (fun p => (p.1, F.eval p.2)) = #[(i, u), (j, v), (k, p), (l, q)] := by simp [hx, hy, hz, ht]

theorem one_binop (b : BinOp) (ty : TypeId) (x y : Operand) (yt : TypeId) (hgd : o.guard = none) (ho : o.op = .binOp b ty x y yt) (u v : Value) (hx : F.eval x = u) (hy : F.eval y = v) (r : Value)
    (hr : (eqGuard b ty x y u v).run P w = .ok () w) (hi : (binOp b ty u v).run P w = .ok r w) (h : Q .normal (F.put o.dst r) w) : wpList P ops Q [o] F w := by
  refine wpList_plain hgd fun K hK => ?_
  unfold Oper.wp execOp
  simp [ho, hx, hy, hr, hi, Oper.upon]
  exact hK _ _ h
theorem one_load_row (ty : TypeId) (x : Operand) (hgd : o.guard = none) (ho : o.op = .load ty x) (g : Nat) (cs : Array Value) (t : TypeId) (fr : Nat × Nat) (hx : F.eval x = .pointer (some ⟨g, 0, none⟩)) (hg : w.heap[g]? = some (.cells cs t fr))
    (d : TypeDesc) (hu : P.underlying ty = some d) (hd : (match d with | .struct _ | .array _ _ => true | _ => false) = true) (hs : (P.info? ty).map (·.size) = some cs.size) (h : Q .normal (F.put o.dst (.agg cs)) w) : wpList P ops Q [o] F w := by
  refine wpList_plain hgd fun K hK => ?_
  unfold Oper.wp execOp
  simp [ho, hx, Instr.loadAt, Instr.sureAddr, run_loadVar_row w g t ty cs fr d hg hu hd hs, Oper.upon]
  exact hK _ _ h
theorem one_alloc_agg (e : TypeId) (hgd : o.guard = none) (ho : o.op = .alloc e) (z : Value) (cs : Array Value) (hz : (P.info? e).map (fun i => i.zero) = some (some z)) (hc : z.cells = cs)
    (h : Q .normal (F.put o.dst (.pointer (some ⟨w.heap.size, 0, none⟩))) (w.alloc (.cells cs e))) : wpList P ops Q [o] F w := by
  refine wpList_plain hgd fun K hK => ?_
  obtain ⟨i, hi, hzz⟩ := Option.map_eq_some_iff.1 hz
  unfold Oper.wp execOp
  simp [ho, Instr.alloc, zeroValue, typeInfo, hi, hzz, newVar, hc, Oper.upon]
  exact hK _ _ h
theorem one_move (x : Operand) (hgd : o.guard = none) (ho : o.op = .move x ∨ o.op = .assign x) (h : Q .normal (F.put o.dst (F.eval x)) w) : wpList P ops Q [o] F w := by
  refine wpList_plain hgd fun K hK => ?_
  unfold Oper.wp execOp
  rcases ho with ho | ho <;> (simp [ho, Oper.upon]; exact hK _ _ h)
end
/-- A variable of the region's own: a row of its own block. -/
def NewRow (B : Nat) (t : TypeId) (cs : Array Value) (v : Value) (w : World) : Prop := ∃ X, v = .pointer (some ⟨X, 0, none⟩) ∧ B ≤ X ∧ X < w.heap.size ∧ w.heap[X]? = some (.cells cs t (0, 0))
theorem NewRow.mono {B : Nat} {t : TypeId} {cs : Array Value} {w w' : World} {v : Value} (h : NewRow B t cs v w) (hb : RowKit.Below w.heap.size w w') : NewRow B t cs v w' := by
  obtain ⟨X, h1, h2, h3, h4⟩ := h
  exact ⟨X, h1, h2, Nat.lt_of_lt_of_le h3 hb.size, (hb.block X h3).trans h4⟩
end Go.Mem
end
