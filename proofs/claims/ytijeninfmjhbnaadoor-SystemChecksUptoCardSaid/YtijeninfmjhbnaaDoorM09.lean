/- Lemmas for the law SystemChecks: HighW, Mem3, KindFit. No conditions. -/
import Derived.Test.YtijeninfmjhbnaaDoorM03
import Derived.BigQuiet
import Derived.Deep.QuietTactic
import Derived.Lib.MinMax
import Derived.Deep.RegionHeld3
import Derived.Test.YtijeninfmjhbnaaDoorM01
import Derived.Test.YtijeninfmjhbnaaDoorM08
import Derived.Laws.MakeOwn
import Derived.Test.YtijeninfmjhbnaaDoorM07
import Derived.Test.YtijeninfmjhbnaaDoorM05
import Derived.Shelf.Abstract
/- kind.High, Near; ref Top, Nearest. -/
section
namespace Go.Proofs.YtijeninfmjhbnaaDoor
open Go.ChangeShapes Go.WideShapes Go.ChangeAt Go.RowKit Go.Nm Go.Mem
set_option linter.unusedVariables false
theorem pow_bd (n : Nat) (h : n ≤ 32) : 1 ≤ (2 : Int) ^ n ∧ (2 : Int) ^ n ≤ 4294967296 := by
  have h1 : 1 ≤ 2 ^ n := Nat.one_le_two_pow
  have h2 : 2 ^ n ≤ 2 ^ 32 := Nat.pow_le_pow_right (by decide) h
  have e : (2 : Int) ^ n = ((2 ^ n : Nat) : Int) := by simp
  rw [e]
  have e2 : (2 : Nat) ^ 32 = 4294967296 := rfl
  omega
theorem pow_in (n : Nat) (h : n ≤ 32) : wrap64 ((2 : Int) ^ n) = 2 ^ n := by
  have := pow_bd n h
  exact IntWalk.wrap64_in _ ⟨by omega, by omega⟩
set_option maxHeartbeats 1000000 in
theorem High_ok (s : ByteArray) (n : Nat) (l : Int) (hs : s.size ≤ 9223372036854775807) (hf : fieldB s n l = true) (h1 : 1 ≤ n) (h2 : n ≤ 32) (h3 : -4294967296 ≤ l) (h4 : l ≤ 4294967296) (w : World) : Calls Tryd.prog 60 #[.agg #[.string s, .int .i64 n, .int .i64 l]] w fun e w' => e = .returned (.int .i64 (l + (2 ^ n - 1))) ∧ Below w.heap.size w w' := by
  have C := fun W => kind_field s n l hs W
  rw [hf] at C
  have C := Lib.hid C
  clear hf hs
  go_enter Tryd.func60, Tryd.ntmps60
  go_wp2_with fail
  refine (C.out _).mono ?_
  rintro e w1 ⟨rfl, hb1⟩
  have c1 : w1.cell? ⟨w.heap.size, 1, none⟩ = some (.int .i64 n) := by rw [hb1.cell (p := ⟨w.heap.size, 1, none⟩) (by simp)]; simp
  have c2 : w1.cell? ⟨w.heap.size, 2, none⟩ = some (.int .i64 l) := by rw [hb1.cell (p := ⟨w.heap.size, 2, none⟩) (by simp)]; simp
  go_wp2_with fail
  go_quiet (fail)
  go_wp2_with fail
  go_ret
  refine ⟨?_, below_drewN (((Below.refl w.heap.size w).alloc (Nat.le_refl _) (.cells #[.string s, .int .i64 n, .int .i64 l] 40)).trans (hb1.mono (by simp))) _⟩
  rw [pow_in n h2]
  obtain ⟨P, hP⟩ : ∃ P : Int, P = 2 ^ n := ⟨_, rfl⟩
  have hb := pow_bd n h2
  rw [← hP] at hb ⊢
  show Ending.returned (.int .i64 (wrap64 (l + wrap64 (P - 1)))) = _
  rw [IntWalk.wrap64_in (P - 1) ⟨by omega, by omega⟩, IntWalk.wrap64_in _ ⟨by omega, by omega⟩]
set_option maxHeartbeats 1000000 in
theorem High_bad (s : ByteArray) (b l : Int) (hs : s.size ≤ 9223372036854775807) (hf : fieldB s b l = false) (w : World) : Calls Tryd.prog 60 #[.agg #[.string s, .int .i64 b, .int .i64 l]] w fun e w' => e = .returned (.int .i64 0) ∧ Below w.heap.size w w' := by
  have C := fun W => kind_field s b l hs W
  rw [hf] at C
  have C := Lib.hid C
  clear hf hs
  go_enter Tryd.func60, Tryd.ntmps60
  go_wp2_with fail
  refine (C.out _).mono ?_
  rintro e w1 ⟨rfl, hb1⟩
  go_wp2_with fail
  go_ret
  exact ⟨rfl, (((Below.refl w.heap.size w).alloc (Nat.le_refl _) (.cells #[.string s, .int .i64 b, .int .i64 l] 40)).trans (hb1.mono (by simp)))⟩
set_option maxHeartbeats 1000000 in
theorem Near_bad (s : ByteArray) (b l v : Int) (hs : s.size ≤ 9223372036854775807) (hf : fieldB s b l = false) (w : World) : Calls Tryd.prog 67 #[.agg #[.string s, .int .i64 b, .int .i64 l], .int .i64 v] w fun e w' => e = .returned (.int .i64 0) ∧ Below w.heap.size w w' := by
  have C := fun W => kind_field s b l hs W
  rw [hf] at C
  have C := Lib.hid C
  clear hf hs
  go_enter Tryd.func67, Tryd.ntmps67
  go_wp2_with fail
  refine (C.out _).mono ?_
  rintro e w1 ⟨rfl, hb1⟩
  go_wp2_with fail
  go_ret
  exact ⟨rfl, (((Below.refl w.heap.size w).alloc (Nat.le_refl _) (.cells #[.string s, .int .i64 b, .int .i64 l] 40)).trans (hb1.mono (by simp)))⟩
def topF (n : Nat) (l : Int) : Int := l + (2 ^ n - 1)
def nearF (n : Nat) (l v : Int) : Int := max l (min v (topF n l))
set_option maxHeartbeats 2000000 in
theorem Near_ok (s : ByteArray) (n : Nat) (l v : Int) (hs : s.size ≤ 9223372036854775807) (hf : fieldB s n l = true) (h1 : 1 ≤ n) (h2 : n ≤ 32) (h3 : -4294967296 ≤ l) (h4 : l ≤ 4294967296) (w : World) : Calls Tryd.prog 67 #[.agg #[.string s, .int .i64 n, .int .i64 l], .int .i64 v] w fun e w' => e = .returned (.int .i64 (nearF n l v)) ∧ Below w.heap.size w w' := by
  have C := fun W => kind_field s n l hs W
  rw [hf] at C
  have C := Lib.hid C
  obtain ⟨T, hT⟩ : ∃ T, T = topF n l := ⟨_, rfl⟩
  have D := fun W => High_ok s n l hs hf h1 h2 h3 h4 W
  have hd : l + (2 ^ n - 1) = T := hT.symm
  rw [hd] at D
  have D := Lib.hid D
  unfold nearF
  rw [← hT]
  clear hf hs hd hT
  go_enter Tryd.func67, Tryd.ntmps67
  go_wp2_with fail
  refine (C.out _).mono ?_
  rintro e w1 ⟨rfl, hb1⟩
  have c0 : w1.cell? ⟨w.heap.size, 0, none⟩ = some (.string s) := by rw [hb1.cell (p := ⟨w.heap.size, 0, none⟩) (by simp)]; simp
  have c1 : w1.cell? ⟨w.heap.size, 1, none⟩ = some (.int .i64 n) := by rw [hb1.cell (p := ⟨w.heap.size, 1, none⟩) (by simp)]; simp
  have c2 : w1.cell? ⟨w.heap.size, 2, none⟩ = some (.int .i64 l) := by rw [hb1.cell (p := ⟨w.heap.size, 2, none⟩) (by simp)]; simp
  have hb : Below w.heap.size w w1 := ((Below.refl w.heap.size w).alloc (Nat.le_refl _) (.cells #[.string s, .int .i64 n, .int .i64 l] 40)).trans (hb1.mono (by simp))
  go_wp2_with fail
  go_region_held3 (fun w' => w'.cell? ⟨w.heap.size, 0, none⟩ = some (.string s) ∧ w'.cell? ⟨w.heap.size, 1, none⟩ = some (.int .i64 n) ∧ w'.cell? ⟨w.heap.size, 2, none⟩ = some (.int .i64 l) ∧ Below w.heap.size w w')
    (first | exact ⟨c0, c1, c2, hb.drew⟩ | assumption | exact keep3 (by assumption) (by assumption) (Nat.le_refl _))
    ((go_at_call 60; refine (D.out _).mono ?_; rintro e w8 ⟨rfl, hb8⟩))
  go_wp2
  go_ret
  exact ⟨rfl, lastk3 (by assumption)⟩
set_option maxHeartbeats 1000000 in
theorem ref_Top (s : ByteArray) (n : Nat) (l : Int) (h2 : n ≤ 32) (h3 : -4294967296 ≤ l) (h4 : l ≤ 4294967296) (w : World) : Calls Tryd.prog 36 #[.agg #[.string s, .int .i64 n, .int .i64 l]] w fun e w' => e = .returned (.int .i64 (topF n l)) ∧ w.alloc (.cells #[.string s, .int .i64 n, .int .i64 l] 40) = w' := by
  go_enter Tryd.func36, Tryd.ntmps36
  go_wp2_with fail
  go_loopg [3, 6] n (fun gk v3 vi wx => ∃ (k : Nat) (P : Int), k ≤ n ∧ gk = n - k ∧ vi = .int .i64 k ∧ v3 = .int .i64 P ∧ P = 2 ^ k ∧ 1 ≤ P ∧ P ≤ 4294967296 ∧ wx = w.alloc (.cells #[.string s, .int .i64 n, .int .i64 l] 40))
  case atStart => exact ⟨0, 1, Nat.zero_le _, rfl, rfl, rfl, by simp, by omega, by omega, rfl⟩
  case round =>
    obtain ⟨k, P, hk, g2, rfl, rfl, hP, p1, p2, rfl⟩ := hrel
    have G2 := Lib.hid g2
    have HP := Lib.hid hP
    clear g2 hP
    by_cases hlt : k < n
    · go_wp2_with fail
      go_roundg (n - (k + 1))
      case measure => rw [G2.out]; omega
      case rel =>
        have h5 := pow_bd (k + 1) (by omega)
        have h6 : P * 2 = 2 ^ (k + 1) := by rw [HP.out, Int.pow_succ]
        exact ⟨k + 1, P * 2, hlt, rfl, by go_num, rfl, h6, by omega, by omega, rfl⟩
    · have hke : k = n := by omega
      have HK := Lib.hid hke
      clear hke
      go_wp2_with fail
      go_ret
      refine ⟨?_, rfl⟩
      unfold topF
      rw [← HK.out, ← HP.out]
      show Ending.returned (.int .i64 (l + P - 1)) = _
      rw [Int.add_sub_assoc]
set_option maxHeartbeats 1000000 in
theorem Nearest_bad (s : ByteArray) (b l v : Int) (hs : s.size ≤ 9223372036854775807) (hf : fieldB s b l = false) (w : World) : Calls Tryd.prog 35 #[.agg #[.string s, .int .i64 b, .int .i64 l], .int .i64 v] w fun e w' => e = .returned (.int .i64 0) ∧ Below w.heap.size w w' := by
  have C := fun W => ref_FieldOK s b l hs W
  rw [hf] at C
  have C := Lib.hid C
  clear hf hs
  go_enter Tryd.func35, Tryd.ntmps35
  go_wp2_with fail
  refine (C.out _).mono ?_
  rintro e w1 ⟨rfl, hb1⟩
  go_wp2_with fail
  go_ret
  exact ⟨rfl, (((Below.refl w.heap.size w).alloc (Nat.le_refl _) (.cells #[.string s, .int .i64 b, .int .i64 l] 40)).trans (hb1.mono (by simp)))⟩
set_option maxHeartbeats 2000000 in
theorem Nearest_ok (s : ByteArray) (n : Nat) (l v : Int) (hs : s.size ≤ 9223372036854775807) (hf : fieldB s n l = true) (h1 : 1 ≤ n) (h2 : n ≤ 32) (h3 : -4294967296 ≤ l) (h4 : l ≤ 4294967296) (w : World) : Calls Tryd.prog 35 #[.agg #[.string s, .int .i64 n, .int .i64 l], .int .i64 v] w fun e w' => e = .returned (.int .i64 (nearF n l v)) ∧ Below w.heap.size w w' := by
  have C := fun W => ref_FieldOK s n l hs W
  rw [hf] at C
  have C := Lib.hid C
  have ht : l ≤ topF n l := by unfold topF; have := pow_bd n h2; omega
  obtain ⟨T, hT⟩ : ∃ T, T = topF n l := ⟨_, rfl⟩
  have D := fun W => ref_Top s n l h2 h3 h4 W
  rw [← hT] at D
  have D := Lib.hid D
  unfold nearF
  rw [← hT] at ht ⊢
  clear hf hs hT
  by_cases a1 : v < l
  · have HV := Lib.hid (show max l (min v T) = l by omega)
    go_enter Tryd.func35, Tryd.ntmps35
    go_wp2_with fail
    refine (C.out _).mono ?_
    rintro e w1 ⟨rfl, hb1⟩
    have c2 : w1.cell? ⟨w.heap.size, 2, none⟩ = some (.int .i64 l) := by rw [hb1.cell (p := ⟨w.heap.size, 2, none⟩) (by simp)]; simp
    have hb : Below w.heap.size w w1 := ((Below.refl w.heap.size w).alloc (Nat.le_refl _) (.cells #[.string s, .int .i64 n, .int .i64 l] 40)).trans (hb1.mono (by simp))
    have HB := Lib.hid hb
    clear hb
    go_wp2_with fail
    go_ret
    exact ⟨by rw [HV.out]; rfl, HB.out⟩
  · by_cases a2 : T < v
    · have HV := Lib.hid (show max l (min v T) = T by omega)
      go_enter Tryd.func35, Tryd.ntmps35
      go_wp2_with fail
      refine (C.out _).mono ?_
      rintro e w1 ⟨rfl, hb1⟩
      have hb : Below w.heap.size w w1 := ((Below.refl w.heap.size w).alloc (Nat.le_refl _) (.cells #[.string s, .int .i64 n, .int .i64 l] 40)).trans (hb1.mono (by simp))
      have HB := Lib.hid hb
      have hz : w.heap.size < w1.heap.size := by have := hb1.size; simp at this; omega
      have c0 : w1.cell? ⟨w.heap.size, 0, none⟩ = some (.string s) := by rw [hb1.cell (p := ⟨w.heap.size, 0, none⟩) (by simp)]; simp
      have c1 : w1.cell? ⟨w.heap.size, 1, none⟩ = some (.int .i64 n) := by rw [hb1.cell (p := ⟨w.heap.size, 1, none⟩) (by simp)]; simp
      have c2 : w1.cell? ⟨w.heap.size, 2, none⟩ = some (.int .i64 l) := by rw [hb1.cell (p := ⟨w.heap.size, 2, none⟩) (by simp)]; simp
      clear hb
      go_wp2_with (go_at_call 36; refine (D.out _).mono ?_; rintro e w8 ⟨rfl, rfl⟩)
      go_ret
      exact ⟨by rw [HV.out]; rfl, (HB.out.alloc HB.out.size _).alloc (by simp; have := HB.out.size; omega) _⟩
    · have HV := Lib.hid (show max l (min v T) = v by omega)
      go_enter Tryd.func35, Tryd.ntmps35
      go_wp2_with fail
      refine (C.out _).mono ?_
      rintro e w1 ⟨rfl, hb1⟩
      have hb : Below w.heap.size w w1 := ((Below.refl w.heap.size w).alloc (Nat.le_refl _) (.cells #[.string s, .int .i64 n, .int .i64 l] 40)).trans (hb1.mono (by simp))
      have HB := Lib.hid hb
      have hz : w.heap.size < w1.heap.size := by have := hb1.size; simp at this; omega
      have c0 : w1.cell? ⟨w.heap.size, 0, none⟩ = some (.string s) := by rw [hb1.cell (p := ⟨w.heap.size, 0, none⟩) (by simp)]; simp
      have c1 : w1.cell? ⟨w.heap.size, 1, none⟩ = some (.int .i64 n) := by rw [hb1.cell (p := ⟨w.heap.size, 1, none⟩) (by simp)]; simp
      have c2 : w1.cell? ⟨w.heap.size, 2, none⟩ = some (.int .i64 l) := by rw [hb1.cell (p := ⟨w.heap.size, 2, none⟩) (by simp)]; simp
      clear hb
      go_wp2_with (go_at_call 36; refine (D.out _).mono ?_; rintro e w8 ⟨rfl, rfl⟩)
      go_ret
      exact ⟨by rw [HV.out]; rfl, HB.out.alloc HB.out.size _⟩
end Go.Proofs.YtijeninfmjhbnaaDoor
end
/- Rows of elements of several cells: made, and written. No program is named here. -/
section
namespace Go
open Go.RowKit
namespace Mem
/-- Block g is a row of N cells. -/
def Blk (w : World) (g : Nat) (t : TypeId) (N : Nat) : Prop := ∃ cs, w.heap[g]? = some (.cells cs t (0, 0)) ∧ cs.size = N
theorem Blk.lt {w : World} {g : Nat} {t : TypeId} {N : Nat} (h : Blk w g t N) : g < w.heap.size := by obtain ⟨cs, h1, _⟩ := h; exact lt_of_heap h1
theorem Blk.below {w w' : World} {g : Nat} {t : TypeId} {N : Nat} (h : Blk w g t N) (hb : Below w.heap.size w w') : Blk w' g t N := by obtain ⟨cs, h1, h2⟩ := h; exact ⟨cs, heap_below h1 hb, h2⟩
theorem Blk.set {w : World} {g : Nat} {t : TypeId} {N : Nat} (h : Blk w g t N) (i : Nat) (v : Value) : Blk (w.setCell ⟨g, i, none⟩ v) g t N := by
  obtain ⟨cs, h1, h2⟩ := h
  exact ⟨_, heap_set h1 i v, by simpa using h2⟩
theorem Blk.far {w : World} {g : Nat} {t : TypeId} {N : Nat} (h : Blk w g t N) {p : Addr} (hne : g ≠ p.block) (v : Value) : Blk (w.setCell p v) g t N := by
  obtain ⟨cs, h1, h2⟩ := h
  exact ⟨_, heap_far h1 hne v, h2⟩
theorem Blk.cell {w : World} {g : Nat} {t : TypeId} {N : Nat} (h : Blk w g t N) (i : Nat) (hi : i < N) : ∃ v, w.cell? ⟨g, i, none⟩ = some v := by
  obtain ⟨cs, h1, h2⟩ := h
  rw [cell_of_row w g i _ _ _ h1]
  exact ⟨cs[i]'(by omega), Array.getElem?_eq_getElem (by omega)⟩
theorem Blk.frozen {w : World} {g : Nat} {t : TypeId} {N : Nat} (h : Blk w g t N) (i : Nat) : w.frozen? ⟨g, i, none⟩ = false := by
  obtain ⟨cs, h1, _⟩ := h; exact Mem.frozen_of_row h1 i
theorem wpList_make_blk {P : Program} {ops : Array Oper} {rest : List Oper} {o : Oper} {a : Act} {w : World} {Q : Exit → Act → World → Prop}
    (hg : o.guard = none) (l c : Operand) (t : TypeId) (hop : o.op = Op.makeSlice t l c) (e : TypeId) (z : Value) (sz bytes : Nat) (h1 : P.underlying t = some (.slice e)) (h2 : (P.info? e).map (fun i => (i.zero, i.size, i.bytes)) = some (some z, sz, bytes))
    (kl kc : IntKind) (L C : Int) (n : Nat) (hl : a.eval l = .int kl L) (hc : a.eval c = .int kc C) (hL : L = (n : Int)) (hC : C = (n : Int)) (b2 : bytes * n ≤ 281474976710656) (b3 : n ≤ maxLen)
    (hK : ∀ w2, Blk w2 w.heap.size e (n * sz) → Below w.heap.size w w2 → w2.heap.size = w.heap.size + 1 → wpList P ops Q rest (a.put o.dst (.slice (some ⟨w.heap.size, 0, none⟩) n n)) w2) :
    wpList P ops Q (o :: rest) a w := by
  refine wpList_plain hg fun K hK' => ?_
  obtain ⟨i, hi, hz, hs, hby⟩ := info_parts h2
  subst hL
  subst hC
  have hb : (i.bytes : Int) * (n : Int) ≤ 281474976710656 := by
    have h : ((i.bytes * n : Nat) : Int) ≤ 281474976710656 := by rw [hby]; omega
    rwa [Int.natCast_mul] at h
  have hr := run_make (P := P) w t e i z h1 hi hz kl kc n n (by omega) (by omega) hb (by unfold maxLen at b3; omega)
  simp only [Int.toNat_natCast] at hr
  unfold Oper.wp
  simp [execOp, hop, hl, hc, hr, Result.andThen, Oper.upon]
  refine hK' _ _ (hK _ ⟨_, heap_alloc_new _ _, ?_⟩ ((Below.refl _ _).alloc (Nat.le_refl _) _) (by simp))
  rw [size_madeCells, hs]
theorem list10 {α : Type} {vs : List α} (h : vs.length = 10) : ∃ a b c d e f g i j k, vs = [a, b, c, d, e, f, g, i, j, k] := by
  match vs, h with
  | [a, b, c, d, e, f, g, i, j, k], _ => exact ⟨a, b, c, d, e, f, g, i, j, k, rfl⟩
theorem add_nextN (x : Addr) (i r : Nat) (h : 0 < r) : x.add (i + r) = ⟨(x.add i).block, (x.add i).off + r, none⟩ := by
  unfold Addr.add
  by_cases h0 : i = 0
  · subst h0; rw [if_neg (by omega), if_pos rfl, Nat.zero_add]
  · rw [if_neg (by omega), if_neg h0]; simp [Nat.add_assoc]
theorem cell_set_ne {w : World} {p q : Addr} {v : Value} (h : p ≠ q) : (w.setCell p v).cell? q = w.cell? q := World.cell?_setCell_other (h := h) ..
theorem cell_set_eq {w : World} {p : Addr} {u v : Value} (h : w.cell? p = some u) : (w.setCell p v).cell? p = some v := World.cell?_setCell_same (h := h) ..
theorem add_zero_block (G i : Nat) : (⟨G, 0, none⟩ : Addr).add i = ⟨G, i, none⟩ := by
  unfold Addr.add
  by_cases h : i = 0
  · rw [if_pos h, h]
  · rw [if_neg h]; simp
/-- The cells behind an address that is asked for only where there is one. -/
def CellsAt (w : World) (a : Option Addr) (us : List Value) : Prop := 0 < us.length → ∃ x, a = some x ∧ x.block < w.heap.size ∧ ∀ j u, us[j]? = some u → w.cell? (x.add j) = some u
/-- 'append(v, s...)' of a slice of whatever elements, whatever it is, v nil or the call's own. -/
theorem wpList_append_cells {P : Program} {w : World} {ops : Array Oper} {rest : List Oper} {o : Oper} {a : Act} {Q : Exit → Act → World → Prop} (hgd : o.guard = none) (s x : Operand) (t : TypeId)
    (ho : o.op = .call { callee := .builtin .append, args := #[s, x], argTypes := #[t, t] })
    (base : Nat) (e : TypeId) (z : Value) (sz bytes : Nat) (ht : P.underlying t = some (.slice e)) (hi : (P.info? e).map (fun i => (i.zero, i.size, i.bytes)) = some (some z, sz, bytes)) (hzs : z.cells.size = sz) (hsz : 0 < sz)
    (v : Value) (n : Nat) (xs : List Value) (hs : a.eval s = v) (hown : w.ownsRow base e sz v n xs)
    (A : Option Addr) (m c : Nat) (zs : List Value) (hx : a.eval x = .slice A m c) (hm : zs.length = m * sz) (hr : CellsAt w A zs) (hone : ∀ u ∈ zs, u.oneCell' = true)
    (hn : n + m ≤ maxLen) (hbytes : (n + m) * bytes ≤ 140737488355328) (hbase : base ≤ w.heap.size)
    (h : ∀ v' w', w'.ownsRow base e sz v' (n + m) (xs ++ zs) → w.grownBy w' v.ownBlock → (v'.ownBlock = v.ownBlock ∨ v'.ownBlock = some w.heap.size) → wpList P ops Q rest (a.put o.dst v') w') :
    wpList P ops Q (o :: rest) a w := by
  obtain ⟨i, hi1, hi2, hi3, hi4⟩ := info_parts hi
  have key : ∃ v' w', (Builtin.append_ #[t, t] o.type #[v, .slice A m c]).run P w = .ok v' w' ∧ w'.ownsRow base e sz v' (n + m) (xs ++ zs) ∧ w.grownBy w' v.ownBlock ∧ (v'.ownBlock = v.ownBlock ∨ v'.ownBlock = some w.heap.size) := by
    by_cases h0 : m = 0
    · subst h0
      have hz : zs = [] := List.eq_nil_of_length_eq_zero (by omega)
      subst hz
      rcases A with _ | ad
      · refine ⟨v, w, ?_, by simpa using hown, World.grownBy.refl w _, .inl rfl⟩
        rcases hown.2 with ⟨rfl, rfl⟩ | ⟨g, cap, cur, rfl, _, _, hnc, _⟩
        · simp [Builtin.append_, run_underlying ht, sizeOf, typeInfo, hi1, Builtin.lenOf, Builtin.firstCells]
        · simp [Builtin.append_, run_underlying ht, sizeOf, typeInfo, hi1, Builtin.lenOf, Builtin.firstCells, hnc, storeCells]
      · obtain ⟨v', w', hrun, h2, h3, _, h5⟩ := run_append_own_at (P := P) w base t o.type e i z sz bytes ht hi1 hi2 hi3 hi4 hzs hsz v n _ hown ad 0 c [] (by simp) (by simp) (by simp) hn hbytes hbase
        exact ⟨v', w', hrun, by simpa using h2, h3, h5⟩
    · obtain ⟨ad, rfl, _, hc⟩ := hr (by rw [hm]; exact Nat.mul_pos (by omega) hsz)
      obtain ⟨v', w', hrun, h2, h3, _, h5⟩ := run_append_own_at (P := P) w base t o.type e i z sz bytes ht hi1 hi2 hi3 hi4 hzs hsz v n _ hown ad m c zs hm hc hone hn hbytes hbase
      exact ⟨v', w', hrun, h2, h3, h5⟩
  obtain ⟨v', w', hrun, h2, h3, h4⟩ := key
  refine wpList_plain hgd fun K hK => ?_
  unfold Oper.wp execOp
  simp only [ho, resolve, invoke, builtin, Sem.run_bind, Sem.run_pure, Result.andThen_ok, List.map_toArray, List.map_cons, List.map_nil, hs, hx, hrun]
  exact hK _ _ (h v' w' h2 h3 h4)
end Mem
end Go
end
/- kind.Fit. -/
section
namespace Go.Proofs.YtijeninfmjhbnaaDoor
open Go.ChangeShapes Go.WideShapes Go.ChangeAt Go.RowKit Go.Nm Go.Mem
set_option linter.unusedVariables false
def nearV (f : FieldV) (v : Int) : Int := nearF f.bits.toNat f.low v
def fitL (l : List FieldV) (vals : List Int) : List Int := List.zipWith nearV l vals
def fitE (k : KindV) (vals : List Int) : Int := if kindE k ≠ 0 then kindE k else if vals.length ≠ k.fields.length then 1 else 0
theorem fld_ok (l : List FieldV) (n : Nat) (h : fldErr l n = 0) : ∀ i, i < n → okF (l.getD i default) = true := by
  induction n with
  | zero => intro i hi; omega
  | succ n ih =>
    have h0 : fldErr l n = 0 := by
      by_cases h1 : fldErr l n = 0
      · exact h1
      · rw [fldErr_stays l n (n + 1) (by omega) h1] at h; exact absurd h h1
    rw [fld_step l n h0] at h
    intro i hi
    by_cases hin : i < n
    · exact ih h0 i hin
    · obtain rfl : i = n := by omega
      by_cases ho : okF (l.getD i default) = false
      · rw [if_pos ho] at h; exact absurd h (by decide)
      · simpa using ho
theorem kind_ok {k : KindV} (h : kindE k = 0) : k.fields.length ≤ 8 ∧ ∀ i (hi : i < k.fields.length), okF k.fields[i] = true := by
  unfold kindE at h
  by_cases h1 : nameB k.name.data.toList = false
  · rw [if_pos h1] at h; exact absurd h (by decide)
  · rw [if_neg h1] at h
    by_cases h2 : 8 < k.fields.length
    · rw [if_pos h2] at h; exact absurd h (by decide)
    · rw [if_neg h2] at h
      refine ⟨by omega, fun i hi => ?_⟩
      have := fld_ok _ _ h i hi
      rw [getD_at _ _ hi] at this
      exact this
theorem okF_parts {f : FieldV} (h : okF f = true) : ∃ n : Nat, f.bits = (n : Int) ∧ 1 ≤ n ∧ n ≤ 32 ∧ -4294967296 ≤ f.low ∧ f.low ≤ 4294967296 ∧ f.bits.toNat = n := by
  unfold okF at h
  rcases field_cases f.name f.bits f.low with ⟨_, _, h1, h2, h3, h4⟩ | ⟨hf, _⟩
  · exact ⟨f.bits.toNat, by omega, by omega, by omega, h3, h4, rfl⟩
  · rw [hf] at h; exact absurd h (by decide)
theorem near_at (f : FieldV) (v : Int) (h : okF f = true) (hs : f.name.size ≤ 9223372036854775807) (w : World) : Calls Tryd.prog 67 #[.agg #[.string f.name, .int .i64 f.bits, .int .i64 f.low], .int .i64 v] w fun e w' => e = .returned (.int .i64 (nearV f v)) ∧ Below w.heap.size w w' := by
  obtain ⟨n, h1, h2, h3, h4, h5, h6⟩ := okF_parts h
  unfold okF at h
  unfold nearV
  rw [h6, h1]
  rw [h1] at h
  exact Near_ok f.name n f.low v hs h h2 h3 h4 h5 w
theorem nearest_at (f : FieldV) (v : Int) (h : okF f = true) (hs : f.name.size ≤ 9223372036854775807) (w : World) : Calls Tryd.prog 35 #[.agg #[.string f.name, .int .i64 f.bits, .int .i64 f.low], .int .i64 v] w fun e w' => e = .returned (.int .i64 (nearV f v)) ∧ Below w.heap.size w w' := by
  obtain ⟨n, h1, h2, h3, h4, h5, h6⟩ := okF_parts h
  unfold okF at h
  unfold nearV
  rw [h6, h1]
  rw [h1] at h
  exact Nearest_ok f.name n f.low v hs h h2 h3 h4 h5 w
def FitPost (k : KindV) (vals : List Int) (W : World) (e : Ending) (w' : World) : Prop := (fitE k vals ≠ 0 → e = .returned (.tuple #[.slice none 0 0, .int .i64 (fitE k vals)])) ∧
  (fitE k vals = 0 → ∃ a c, e = .returned (.tuple #[.slice a vals.length c, .int .i64 0]) ∧ IntsAt .i64 w' a (fitL k.fields vals)) ∧ Below W.heap.size W w'
def F_fit (BB G i m cv : Nat) (u : Int) (z : Addr) (y : FieldV) (j : Nat) (v : Value) (w : World) : Prop :=
  match j with
  | 0 => v = .slice (some ⟨G, 0, none⟩) m m
  | 1 => v = .int .i64 i
  | 2 => v = .agg #[.string y.name, .int .i64 y.bits, .int .i64 y.low]
  | 3 => v = .slice (some z) m cv
  | 4 => v = .int .i64 i
  | 5 => v = .pointer (some (z.add i))
  | 6 => v = .int .i64 u
  | 7 => v = .int .i64 (nearV y u)
  | 8 => v = .pointer (some ⟨G, i, none⟩)
  | _ => True
theorem F_fit_mono (BB G i m cv : Nat) (u : Int) (z : Addr) (y : FieldV) : Facts (F_fit BB G i m cv u z y) := ⟨fun j v w w' h _ => by
  unfold F_fit at h ⊢
  split at h
  all_goals first | exact h | trivial⟩
set_option maxHeartbeats 8000000 in
theorem kind_Fit (k : KindV) (a : Option Addr) (n cap : Nat) (vals : List Int) (av : Option Addr) (m cv : Nat) (hn : k.fields.length = n) (hm : vals.length = m) (hm9 : m ≤ 9223372036854775807) (hnm : k.name.size ≤ 9223372036854775807) (hnc : n ≤ cap) (hcm : cap ≤ 9223372036854775807) (W : World) (hz : SlAt 3 FieldAt W a k.fields) (hv : IntsAt .i64 W av vals) :
    Calls Tryd.prog 45 #[.agg #[.string k.name, .slice a n cap], .slice av m cv] W (FitPost k vals W) := by
  have hb0 := (Below.refl W.heap.size W).alloc (Nat.le_refl _) (.cells #[.string k.name, .slice a n cap] 43)
  have hc := kind_One k a n cap hn hnm hnc hcm (W.alloc (.cells #[.string k.name, .slice a n cap] 43)) (hz.below FieldAt.abides hb0)
  have x0 := heap_alloc_new W (.cells #[.string k.name, .slice a n cap] 43)
  have HB0 := Lib.hid hb0
  have HX0 := Lib.hid x0
  have HN := Lib.hid hn
  have HM := Lib.hid hm
  have HZ := Lib.hid hz
  have HV := Lib.hid hv
  obtain ⟨nm, l⟩ := k
  simp only at hc HX0 HB0 hnm HN HZ ⊢
  obtain ⟨e1, he1⟩ : ∃ e1, e1 = kindE ⟨nm, l⟩ := ⟨_, rfl⟩
  rw [← he1] at hc
  have HE := Lib.hid he1
  have HC := Lib.hid hc
  clear hb0 hc x0 hn hm hz hv he1
  by_cases he : e1 = 0
  · subst he
    obtain ⟨hn8, hok⟩ := kind_ok HE.out.symm
    simp only at hn8 hok
    rw [HN.out] at hn8
    have HOK := Lib.hid hok
    clear hok
    go_enter Tryd.func45, Tryd.ntmps45
    go_wp2_with fail
    refine HC.out.mono ?_
    rintro e w1 ⟨rfl, hb1⟩
    have hx1 := heap_below HX0.out hb1
    have c1 : w1.cell? ⟨W.heap.size, 1, none⟩ = some (.slice a n cap) := by rw [cell_of_row _ _ 1 _ _ _ hx1]; rfl
    have hbw := HB0.out.trans (hb1.mono (by simp))
    have HB1 := Lib.hid hbw
    have HX1 := Lib.hid hx1
    have hs1 := hbw.size
    clear hb1 hx1 hbw HC HX0 HB0
    by_cases hmn : m = n
    · subst hmn
      have HFE := Lib.hid (show fitE ⟨nm, l⟩ vals = 0 by unfold fitE; rw [if_neg (by rw [← HE.out]; simp), if_neg (by simp only; rw [HM.out, HN.out]; simp)])
      have t0 : ((m : Int) != (m : Int)) = false := by simp
      go_wp2_with (at_make; go_must (refine wpList_make_rowB rfl _ _ 23 rfl 3 .i64 8 Tryd.underlying23 (by kernel_rfl) _ _ _ _ m rfl rfl rfl rfl ?b1 ?b2 ?_))
      case b1 => omega
      case b2 => unfold maxLen; omega
      intro w2 hrow hb2 hs2
      have c2 : w2.cell? ⟨W.heap.size, 1, none⟩ = some (.slice a m cap) := by rw [cell_of_row _ _ 1 _ _ _ (heap_below HX1.out hb2)]; rfl
      obtain ⟨G, hG⟩ : ∃ G, G = w1.heap.size := ⟨_, rfl⟩
      rw [← hG] at hrow hs2 ⊢
      have hWG : W.heap.size ≤ G := by rw [hG]; exact HB1.out.size
      have HROW := Lib.hid hrow
      have HB2 := Lib.hid (HB1.out.trans (hb2.mono HB1.out.size))
      clear hrow hb2 hG c1 hs2
      go_wp2_with fail
      clear c2
      go_loopg [8, 9, 27] m (fun gk v8 v9 vi wx => ∃ (i : Nat) (out : List Int), i ≤ m ∧ gk = m - i ∧ vi = .int .i64 i ∧ out.length = m ∧ (∀ j (h1 : j < l.length) (h2 : j < vals.length), j < i → out.getD j 0 = nearV l[j] vals[j]) ∧ RowB wx G 3 .i64 out ∧ Below W.heap.size W wx)
      case atStart => exact ⟨0, List.replicate m 0, Nat.zero_le _, rfl, rfl, by simp, fun j _ _ h => absurd h (by omega), HROW.out, HB2.out⟩
      case round =>
        obtain ⟨i, out, hi, g2, rfl, hol, hat, hrow, hb⟩ := hrel
        have G2 := Lib.hid g2
        have HOL := Lib.hid hol
        have HAT := Lib.hid hat
        have HROW2 := Lib.hid hrow
        have HB := Lib.hid hb
        have hbs := hb.size
        have hgl := hrow.lt
        clear g2 hol hat hrow hb HROW HB2
        by_cases hlt : i < m
        · obtain ⟨x, rfl, hx, hix⟩ := (HZ.out.below FieldAt.abides HB.out) (by rw [HN.out]; omega)
          obtain ⟨z, rfl, hzl, hiz⟩ := (HV.out.below HB.out) (by rw [HM.out]; omega)
          obtain ⟨k0, k1, k2, k3⟩ := hix i (by rw [HN.out]; exact hlt)
          have kv := hiz i (by rw [HM.out]; exact hlt)
          obtain ⟨y, hy⟩ : ∃ y, y = l[i]'(by rw [HN.out]; exact hlt) := ⟨_, rfl⟩
          rw [← hy] at k0 k1 k2 k3
          obtain ⟨u, hu⟩ : ∃ u, u = vals.getD i 0 := ⟨_, rfl⟩
          rw [← hu] at kv
          have hoky : okF y = true := by rw [hy]; exact HOK.out i (by rw [HN.out]; exact hlt)
          have HNR := Lib.hid (near_at y u hoky k3)
          have HY := Lib.hid hy
          have HU := Lib.hid hu
          clear hix hiz hy hu hoky k3
          go_wp2_with fail
          have hb0 := (Below.refl wr.heap.size wr).alloc (Nat.le_refl _) (.cells #[.string y.name, .int .i64 y.bits, .int .i64 y.low] 40)
          have B0 := heap_alloc_new wr (.cells #[.string y.name, .int .i64 y.bits, .int .i64 y.low] 40)
          have B1 := cell_abides kv hb0
          refine wp_region_facts rfl 9 (by kernel_rfl) (F_fit wr.heap.size G i m cv u z y) (F_fit_mono wr.heap.size G i m cv u z y) ?_ ?_
          · refine ⟨?_, ?_, ?_, ?_, ?_, ?_, ?_, ?_, ?_, trivial⟩
            · intro vs w' F hb hd hF hl
              have e := (hF 7).trans (look_out _ 7 _ _ (by kernel_rfl))
              exact one_move _ rfl (by first | exact Or.inl rfl | exact Or.inr rfl) ⟨_, rfl, Below.refl _ _, e⟩
            · intro vs w' F hb hd hF hl
              have e := (hF 8).trans (look_out _ 8 _ _ (by kernel_rfl))
              exact one_move _ rfl (by first | exact Or.inl rfl | exact Or.inr rfl) ⟨_, rfl, Below.refl _ _, e⟩
            · intro vs w' F hb hd hF hl
              have e := ((hF 9).trans (look_out _ 9 _ _ (by kernel_rfl)))
              exact one_load_row 40 _ rfl rfl wr.heap.size #[.string y.name, .int .i64 y.bits, .int .i64 y.low] 40 (0, 0) e (heap_below B0 hb) _ Tryd.underlying40 rfl (by kernel_rfl) ⟨_, rfl, Below.refl _ _, rfl⟩
            · intro vs w' F hb hd hF hl
              have e := (hF 1).trans (look_out _ 1 _ _ (by kernel_rfl))
              exact one_move _ rfl (by first | exact Or.inl rfl | exact Or.inr rfl) ⟨_, rfl, Below.refl _ _, e⟩
            · intro vs w' F hb hd hF hl
              have e := (hF 8).trans (look_out _ 8 _ _ (by kernel_rfl))
              exact one_move _ rfl (by first | exact Or.inl rfl | exact Or.inr rfl) ⟨_, rfl, Below.refl _ _, e⟩
            · intro vs w' F hb hd hF hl
              have ex := (((hF 35).trans (look_at _ 35 3 _ _ (by kernel_rfl) (by kernel_rfl) hl)).trans (dep_of (Fact := F_fit wr.heap.size G i m cv u z y) hd 3 (by kernel_rfl)))
              have ey := (((hF 36).trans (look_at _ 36 4 _ _ (by kernel_rfl) (by kernel_rfl) hl)).trans (dep_of (Fact := F_fit wr.heap.size G i m cv u z y) hd 4 (by kernel_rfl)))
              exact one_index 23 _ _ rfl rfl (.slice (some z) m cv) (.int .i64 i) (.pointer (some (z.add i))) ex ey (fun w => by clear hb hd hF hl ex ey; go_simp) ⟨_, rfl, Below.refl _ _, rfl⟩
            · intro vs w' F hb hd hF hl
              have e := (((hF 37).trans (look_at _ 37 5 _ _ (by kernel_rfl) (by kernel_rfl) hl)).trans (dep_of (Fact := F_fit wr.heap.size G i m cv u z y) hd 5 (by kernel_rfl)))
              exact one_load _ _ rfl rfl _ _ e (cell_abides B1 hb) (by kernel_rfl) ⟨_, rfl, Below.refl _ _, rfl⟩
            · intro vs w' F hb hd hF hl
              have e1 := (((hF 34).trans (look_at _ 34 2 _ _ (by kernel_rfl) (by kernel_rfl) hl)).trans (dep_of (Fact := F_fit wr.heap.size G i m cv u z y) hd 2 (by kernel_rfl)))
              have e2 := (((hF 38).trans (look_at _ 38 6 _ _ (by kernel_rfl) (by kernel_rfl) hl)).trans (dep_of (Fact := F_fit wr.heap.size G i m cv u z y) hd 6 (by kernel_rfl)))
              refine one_call _ _ rfl rfl (enters_of Tryd.func67 (by kernel_rfl) rfl) #[.agg #[.string y.name, .int .i64 y.bits, .int .i64 y.low], .int .i64 u] (eval2 e1 e2) ?_
              refine (HNR.out w').mono ?_
              rintro e3 w2 ⟨rfl, hb2⟩
              exact ⟨_, rfl, _, rfl, hb2, rfl⟩
            · intro vs w' F hb hd hF hl
              have ex := (((hF 32).trans (look_at _ 32 0 _ _ (by kernel_rfl) (by kernel_rfl) hl)).trans (dep_of (Fact := F_fit wr.heap.size G i m cv u z y) hd 0 (by kernel_rfl)))
              have ey := (((hF 33).trans (look_at _ 33 1 _ _ (by kernel_rfl) (by kernel_rfl) hl)).trans (dep_of (Fact := F_fit wr.heap.size G i m cv u z y) hd 1 (by kernel_rfl)))
              exact one_index 23 _ _ rfl rfl (.slice (some ⟨G, 0, none⟩) m m) (.int .i64 i) (.pointer (some ⟨G, i, none⟩)) ex ey (fun w => by clear hb hd hF hl ex ey; go_simp) ⟨_, rfl, Below.refl _ _, rfl⟩
          · intro vs W1 hl hb hI
            have i7 : vs.getD 7 undef = .int .i64 (nearV y u) := hI 7 (by omega)
            have i8 : vs.getD 8 undef = .pointer (some ⟨G, i, none⟩) := hI 8 (by omega)
            obtain ⟨v0, v1, v2, v3, v4, v5, v6, v7, v8, v9, rfl⟩ := list10 hl
            replace i7 : v7 = .int .i64 (nearV y u) := i7
            replace i8 : v8 = .pointer (some ⟨G, i, none⟩) := i8
            subst i7 i8
            have hrow1 := (HROW2.out.alloc (.cells #[.string y.name, .int .i64 y.bits, .int .i64 y.low] 40)).below hb
            have f0 := hrow1.cell i (by rw [HOL.out]; exact hlt)
            have f1 := hrow1.frozen i
            have hbw : Below wr.heap.size wr W1 := hb0.trans (hb.mono (by simp))
            have HBN := Lib.hid ((HB.out.trans (hbw.mono HB.out.size)).setCell (p := ⟨G, i, none⟩) hWG (.int .i64 (nearV y u)))
            have HRN := Lib.hid (hrow1.set i (nearV y u))
            have HATN : Hid (∀ j (h1 : j < l.length) (h2 : j < vals.length), j < i + 1 → (out.set i (nearV y u)).getD j 0 = nearV l[j] vals[j]) := Lib.hid (fun j h1 h2 hj => by
              by_cases hji : j < i
              · rw [List.getD_eq_getElem?_getD, List.getElem?_set_ne (by omega), ← List.getD_eq_getElem?_getD]
                exact HAT.out j h1 h2 hji
              · obtain rfl : j = i := by omega
                rw [List.getD_eq_getElem?_getD, List.getElem?_set_self (by rw [HOL.out]; exact hlt)]
                have e2 : vals[j] = u := by rw [HU.out, List.getD_eq_getElem?_getD, List.getElem?_eq_getElem h2]; rfl
                rw [e2, ← HY.out]; rfl)
            clear hI hl hb hbw hrow1 hb0 B0 B1
            simp only [fillAll, Act.put, List.setIfInBounds_toArray, List.set_cons_succ, List.set_cons_zero]
            go_wp2
            go_roundg (m - (i + 1))
            case measure => rw [G2.out]; omega
            case rel => exact ⟨i + 1, out.set i (nearV y u), hlt, rfl, by go_num, by rw [List.length_set]; exact HOL.out, HATN.out, HRN.out, HBN.out⟩
        · have hie : i = m := by omega
          have hfl : fitL l vals = out := by
            unfold fitL
            refine List.ext_getElem (by rw [List.length_zipWith, HN.out, HM.out, HOL.out]; omega) (fun j h1 h2 => ?_)
            rw [List.length_zipWith] at h1
            rw [List.getElem_zipWith]
            have := HAT.out j (by omega) (by omega) (by rw [HOL.out] at h2; omega)
            rw [List.getD_eq_getElem?_getD, List.getElem?_eq_getElem h2] at this
            exact this.symm
          have HFL := Lib.hid hfl
          clear hie hfl
          go_wp2_with fail
          go_ret2
          exact ⟨fun h => absurd HFE.out h, fun _ => ⟨_, m, by rw [HM.out]; rfl, by simp only; rw [HFL.out]; exact HROW2.out.ints⟩, HB.out⟩
    · have HFE := Lib.hid (show fitE ⟨nm, l⟩ vals = 1 by unfold fitE; rw [if_neg (by rw [← HE.out]; simp), if_pos (by simp only; rw [HM.out, HN.out]; exact hmn)])
      have t0 : ((m : Int) != (n : Int)) = true := by rw [bne_iff_ne]; omega
      clear hmn
      go_wp2_with fail
      go_ret2
      exact ⟨fun _ => by rw [HFE.out]; rfl, fun h => absurd (HFE.out.symm.trans h) (by decide), HB1.out⟩
  · have t1 : (e1 != 0) = true := by rw [bne_iff_ne]; exact he
    have HFE := Lib.hid (show fitE ⟨nm, l⟩ vals = e1 by unfold fitE; rw [if_pos (by rw [← HE.out]; exact he), ← HE.out])
    have HNE := Lib.hid he
    clear he
    go_enter Tryd.func45, Tryd.ntmps45
    go_wp2_with fail
    refine HC.out.mono ?_
    rintro e w1 ⟨rfl, hb1⟩
    have HB1 := Lib.hid (HB0.out.trans (hb1.mono (by simp)))
    clear hb1
    go_wp2_with fail
    go_ret2
    exact ⟨fun _ => by rw [HFE.out]; rfl, fun h => absurd (HFE.out.symm.trans h) HNE.out, HB1.out⟩
end Go.Proofs.YtijeninfmjhbnaaDoor
end
