/- The reference's Rounds. -/
import Derived.Test.YtembjokbhbdoeaaPlanRoP
import Derived.Test.YtembjokbhbdoeaaPlanClash
import Derived.Test.YtembjokbhbdoeaaPlanRe
import Derived.Test.YtembjokbhbdoeaaPlanLay
import Derived.Test.YtembjokbhbdoeaaPlanCh
import Derived.Test.YtembjokbhbdoeaaRowV
import Derived.Deep.DeepMust
import Derived.OwnWalk
namespace Go.Proofs.Ytembjokbhbdoeaa
open Go.ChangeShapes Go.WideShapes Go.ChangeAt Go.RowKit Go.Mem
set_option linter.unusedVariables false
theorem idx_bool (g n c j : Nat) (hj : j < n) (w : World) : (Instr.indexAt 55 (.slice (some ⟨g, 0, none⟩) n c) (.int .i64 j)).run Try.prog w = .ok (.pointer (some ⟨g, j, none⟩)) w := by
  have i1 : (0 : Int) ≤ (j : Int) := by omega
  have i2 : (j : Int) < (n : Int) := by omega
  go_simp
theorem list20 {α : Type} {vs : List α} (h : vs.length = 20) : ∃ x0 x1 x2 x3 x4 x5 x6 x7 x8 x9 x10 x11 x12 x13 x14 x15 x16 x17 x18 x19, vs = [x0, x1, x2, x3, x4, x5, x6, x7, x8, x9, x10, x11, x12, x13, x14, x15, x16, x17, x18, x19] := by
  obtain ⟨x0, t0, rfl, h0⟩ := cons_of h
  obtain ⟨x1, t1, rfl, h1⟩ := cons_of h0
  obtain ⟨x2, t2, rfl, h2⟩ := cons_of h1
  obtain ⟨x3, t3, rfl, h3⟩ := cons_of h2
  obtain ⟨x4, t4, rfl, h4⟩ := cons_of h3
  obtain ⟨x5, t5, rfl, h5⟩ := cons_of h4
  obtain ⟨x6, t6, rfl, h6⟩ := cons_of h5
  obtain ⟨x7, t7, rfl, h7⟩ := cons_of h6
  obtain ⟨x8, t8, rfl, h8⟩ := cons_of h7
  obtain ⟨x9, t9, rfl, h9⟩ := cons_of h8
  obtain ⟨x10, t10, rfl, h10⟩ := cons_of h9
  obtain ⟨x11, t11, rfl, h11⟩ := cons_of h10
  obtain ⟨x12, t12, rfl, h12⟩ := cons_of h11
  obtain ⟨x13, t13, rfl, h13⟩ := cons_of h12
  obtain ⟨x14, t14, rfl, h14⟩ := cons_of h13
  obtain ⟨x15, t15, rfl, h15⟩ := cons_of h14
  obtain ⟨x16, t16, rfl, h16⟩ := cons_of h15
  obtain ⟨x17, t17, rfl, h17⟩ := cons_of h16
  obtain ⟨x18, t18, rfl, h18⟩ := cons_of h17
  obtain ⟨x19, t19, rfl, h19⟩ := cons_of h18
  exact ⟨x0, x1, x2, x3, x4, x5, x6, x7, x8, x9, x10, x11, x12, x13, x14, x15, x16, x17, x18, x19, by rw [List.eq_nil_of_length_eq_zero h19]⟩
def F_rf (G m i j xb xo c : Nat) (s0 : ByteArray) (a1 : Option Addr) (n1 c1 : Nat) (a2 : Option Addr) (n2 c2 : Nat) (a3 : Option Addr) (n3 c3 : Nat) (a4 : Option Addr) (n4 c4 : Nat) (a5 : Option Addr) (n5 c5 : Nat) (a6 : Option Addr) (n6 c6 : Nat) (t0 : ByteArray) (b1 : Option Addr) (m1 d1 : Nat) (b2 : Option Addr) (m2 d2 : Nat) (b3 : Option Addr) (m3 d3 : Nat) (b4 : Option Addr) (m4 d4 : Nat) (b5 : Option Addr) (m5 d5 : Nat) (b6 : Option Addr) (m6 d6 : Nat) (jq : Nat) (v : Value) (w : World) : Prop :=
  match jq with
  | 0 => v = .bool false
  | 1 => v = .bool false
  | 2 => v = undef
  | 3 => v = undef
  | 4 => v = undef
  | 5 => v = undef
  | 6 => v = undef
  | 7 => v = undef
  | 8 => v = undef
  | 9 => v = undef
  | 10 => v = undef
  | 11 => v = undef
  | 12 => v = undef
  | 13 => v = undef
  | 14 => v = undef
  | 15 => v = undef
  | 16 => v = undef
  | 17 => v = undef
  | 18 => v = .bool false
  | _ => True
theorem F_rf_mono (G m i j xb xo c : Nat) (s0 : ByteArray) (a1 : Option Addr) (n1 c1 : Nat) (a2 : Option Addr) (n2 c2 : Nat) (a3 : Option Addr) (n3 c3 : Nat) (a4 : Option Addr) (n4 c4 : Nat) (a5 : Option Addr) (n5 c5 : Nat) (a6 : Option Addr) (n6 c6 : Nat) (t0 : ByteArray) (b1 : Option Addr) (m1 d1 : Nat) (b2 : Option Addr) (m2 d2 : Nat) (b3 : Option Addr) (m3 d3 : Nat) (b4 : Option Addr) (m4 d4 : Nat) (b5 : Option Addr) (m5 d5 : Nat) (b6 : Option Addr) (m6 d6 : Nat) : Facts (F_rf G m i j xb xo c s0 a1 n1 c1 a2 n2 c2 a3 n3 c3 a4 n4 c4 a5 n5 c5 a6 n6 c6 t0 b1 m1 d1 b2 m2 d2 b3 m3 d3 b4 m4 d4 b5 m5 d5 b6 m6 d6) := ⟨by
  intro jq v w w' h hb
  unfold F_rf at h ⊢
  split at h
  all_goals first
    | exact h
    | trivial⟩
def F_rt (G m i j xb xo c : Nat) (s0 : ByteArray) (a1 : Option Addr) (n1 c1 : Nat) (a2 : Option Addr) (n2 c2 : Nat) (a3 : Option Addr) (n3 c3 : Nat) (a4 : Option Addr) (n4 c4 : Nat) (a5 : Option Addr) (n5 c5 : Nat) (a6 : Option Addr) (n6 c6 : Nat) (t0 : ByteArray) (b1 : Option Addr) (m1 d1 : Nat) (b2 : Option Addr) (m2 d2 : Nat) (b3 : Option Addr) (m3 d3 : Nat) (b4 : Option Addr) (m4 d4 : Nat) (b5 : Option Addr) (m5 d5 : Nat) (b6 : Option Addr) (m6 d6 : Nat) (jq : Nat) (v : Value) (w : World) : Prop :=
  match jq with
  | 0 => v = .bool true
  | 1 => v = .bool true
  | 2 => v = .slice (some ⟨G, 0, none⟩) m m
  | 3 => v = .int .i64 j
  | 4 => v = .pointer (some ⟨G, j, none⟩)
  | 5 => v = .bool true
  | 6 => v = .bool true
  | 7 => v = undef
  | 8 => v = undef
  | 9 => v = undef
  | 10 => v = undef
  | 11 => v = undef
  | 12 => v = undef
  | 13 => v = undef
  | 14 => v = undef
  | 15 => v = undef
  | 16 => v = undef
  | 17 => v = .bool true
  | 18 => v = .bool true
  | _ => True
theorem F_rt_mono (G m i j xb xo c : Nat) (s0 : ByteArray) (a1 : Option Addr) (n1 c1 : Nat) (a2 : Option Addr) (n2 c2 : Nat) (a3 : Option Addr) (n3 c3 : Nat) (a4 : Option Addr) (n4 c4 : Nat) (a5 : Option Addr) (n5 c5 : Nat) (a6 : Option Addr) (n6 c6 : Nat) (t0 : ByteArray) (b1 : Option Addr) (m1 d1 : Nat) (b2 : Option Addr) (m2 d2 : Nat) (b3 : Option Addr) (m3 d3 : Nat) (b4 : Option Addr) (m4 d4 : Nat) (b5 : Option Addr) (m5 d5 : Nat) (b6 : Option Addr) (m6 d6 : Nat) : Facts (F_rt G m i j xb xo c s0 a1 n1 c1 a2 n2 c2 a3 n3 c3 a4 n4 c4 a5 n5 c5 a6 n6 c6 t0 b1 m1 d1 b2 m2 d2 b3 m3 d3 b4 m4 d4 b5 m5 d5 b6 m6 d6) := ⟨by
  intro jq v w w' h hb
  unfold F_rt at h ⊢
  split at h
  all_goals first
    | exact h
    | trivial⟩
def F_rx (G m i j xb xo c : Nat) (s0 : ByteArray) (a1 : Option Addr) (n1 c1 : Nat) (a2 : Option Addr) (n2 c2 : Nat) (a3 : Option Addr) (n3 c3 : Nat) (a4 : Option Addr) (n4 c4 : Nat) (a5 : Option Addr) (n5 c5 : Nat) (a6 : Option Addr) (n6 c6 : Nat) (t0 : ByteArray) (b1 : Option Addr) (m1 d1 : Nat) (b2 : Option Addr) (m2 d2 : Nat) (b3 : Option Addr) (m3 d3 : Nat) (b4 : Option Addr) (m4 d4 : Nat) (b5 : Option Addr) (m5 d5 : Nat) (b6 : Option Addr) (m6 d6 : Nat) (jq : Nat) (v : Value) (w : World) : Prop :=
  match jq with
  | 0 => v = .bool true
  | 1 => v = .bool true
  | 2 => v = .slice (some ⟨G, 0, none⟩) m m
  | 3 => v = .int .i64 j
  | 4 => v = .pointer (some ⟨G, j, none⟩)
  | 5 => v = .bool false
  | 6 => v = .bool false
  | 7 => v = .slice (some ⟨xb, xo, none⟩) m c
  | 8 => v = .int .i64 j
  | 9 => v = .pointer (some ⟨xb, xo + j * 7, none⟩)
  | 10 => v = .agg #[.string t0, .slice b1 m1 d1, .slice b2 m2 d2, .slice b3 m3 d3, .slice b4 m4 d4, .slice b5 m5 d5, .slice b6 m6 d6]
  | 11 => v = .slice (some ⟨xb, xo, none⟩) m c
  | 12 => v = .int .i64 i
  | 13 => v = .pointer (some ⟨xb, xo + i * 7, none⟩)
  | 14 => v = .agg #[.string s0, .slice a1 n1 c1, .slice a2 n2 c2, .slice a3 n3 c3, .slice a4 n4 c4, .slice a5 n5 c5, .slice a6 n6 c6]
  | 15 => v = .bool true
  | 16 => v = .bool false
  | 17 => v = .bool false
  | 18 => v = .bool false
  | _ => True
theorem F_rx_mono (G m i j xb xo c : Nat) (s0 : ByteArray) (a1 : Option Addr) (n1 c1 : Nat) (a2 : Option Addr) (n2 c2 : Nat) (a3 : Option Addr) (n3 c3 : Nat) (a4 : Option Addr) (n4 c4 : Nat) (a5 : Option Addr) (n5 c5 : Nat) (a6 : Option Addr) (n6 c6 : Nat) (t0 : ByteArray) (b1 : Option Addr) (m1 d1 : Nat) (b2 : Option Addr) (m2 d2 : Nat) (b3 : Option Addr) (m3 d3 : Nat) (b4 : Option Addr) (m4 d4 : Nat) (b5 : Option Addr) (m5 d5 : Nat) (b6 : Option Addr) (m6 d6 : Nat) : Facts (F_rx G m i j xb xo c s0 a1 n1 c1 a2 n2 c2 a3 n3 c3 a4 n4 c4 a5 n5 c5 a6 n6 c6 t0 b1 m1 d1 b2 m2 d2 b3 m3 d3 b4 m4 d4 b5 m5 d5 b6 m6 d6) := ⟨by
  intro jq v w w' h hb
  unfold F_rx at h ⊢
  split at h
  all_goals first
    | exact h
    | trivial⟩
def F_ry (G m i j xb xo c : Nat) (s0 : ByteArray) (a1 : Option Addr) (n1 c1 : Nat) (a2 : Option Addr) (n2 c2 : Nat) (a3 : Option Addr) (n3 c3 : Nat) (a4 : Option Addr) (n4 c4 : Nat) (a5 : Option Addr) (n5 c5 : Nat) (a6 : Option Addr) (n6 c6 : Nat) (t0 : ByteArray) (b1 : Option Addr) (m1 d1 : Nat) (b2 : Option Addr) (m2 d2 : Nat) (b3 : Option Addr) (m3 d3 : Nat) (b4 : Option Addr) (m4 d4 : Nat) (b5 : Option Addr) (m5 d5 : Nat) (b6 : Option Addr) (m6 d6 : Nat) (jq : Nat) (v : Value) (w : World) : Prop :=
  match jq with
  | 0 => v = .bool true
  | 1 => v = .bool true
  | 2 => v = .slice (some ⟨G, 0, none⟩) m m
  | 3 => v = .int .i64 j
  | 4 => v = .pointer (some ⟨G, j, none⟩)
  | 5 => v = .bool false
  | 6 => v = .bool false
  | 7 => v = .slice (some ⟨xb, xo, none⟩) m c
  | 8 => v = .int .i64 j
  | 9 => v = .pointer (some ⟨xb, xo + j * 7, none⟩)
  | 10 => v = .agg #[.string t0, .slice b1 m1 d1, .slice b2 m2 d2, .slice b3 m3 d3, .slice b4 m4 d4, .slice b5 m5 d5, .slice b6 m6 d6]
  | 11 => v = .slice (some ⟨xb, xo, none⟩) m c
  | 12 => v = .int .i64 i
  | 13 => v = .pointer (some ⟨xb, xo + i * 7, none⟩)
  | 14 => v = .agg #[.string s0, .slice a1 n1 c1, .slice a2 n2 c2, .slice a3 n3 c3, .slice a4 n4 c4, .slice a5 n5 c5, .slice a6 n6 c6]
  | 15 => v = .bool false
  | 16 => v = .bool true
  | 17 => v = .bool true
  | 18 => v = .bool true
  | _ => True
theorem F_ry_mono (G m i j xb xo c : Nat) (s0 : ByteArray) (a1 : Option Addr) (n1 c1 : Nat) (a2 : Option Addr) (n2 c2 : Nat) (a3 : Option Addr) (n3 c3 : Nat) (a4 : Option Addr) (n4 c4 : Nat) (a5 : Option Addr) (n5 c5 : Nat) (a6 : Option Addr) (n6 c6 : Nat) (t0 : ByteArray) (b1 : Option Addr) (m1 d1 : Nat) (b2 : Option Addr) (m2 d2 : Nat) (b3 : Option Addr) (m3 d3 : Nat) (b4 : Option Addr) (m4 d4 : Nat) (b5 : Option Addr) (m5 d5 : Nat) (b6 : Option Addr) (m6 d6 : Nat) : Facts (F_ry G m i j xb xo c s0 a1 n1 c1 a2 n2 c2 a3 n3 c3 a4 n4 c4 a5 n5 c5 a6 n6 c6 t0 b1 m1 d1 b2 m2 d2 b3 m3 d3 b4 m4 d4 b5 m5 d5 b6 m6 d6) := ⟨by
  intro jq v w w' h hb
  unfold F_ry at h ⊢
  split at h
  all_goals first
    | exact h
    | trivial⟩

/-- which systems are done behind round r -/
def doneR (l : List SysV) (m r : Nat) : List Bool := (List.range m).map fun i => decide (depN l m i ≤ r)
theorem doneR_len (l : List SysV) (m r : Nat) : (doneR l m r).length = m := by unfold doneR; simp
theorem doneR_get (l : List SysV) (m r i : Nat) (h : i < m) : (doneR l m r).getD i false = decide (depN l m i ≤ r) := by
  unfold doneR; simp [List.getD_eq_getElem?_getD, h]
theorem doneR_zero (l : List SysV) (m : Nat) : doneR l m 0 = List.replicate m false := by
  refine List.ext_getElem (by rw [doneR_len, List.length_replicate]) fun i h1 h2 => ?_
  rw [doneR_len] at h1
  have := (depL_le l m i h1).1
  unfold doneR
  simp
  unfold depN; omega
/-- the first i systems of a row -/
def rowI (l : List SysV) (m r i : Nat) : List Nat := (List.range i).filter fun j => decide (depN l m j = r + 1)
theorem rowI_succ (l : List SysV) (m r i : Nat) : rowI l m r (i + 1) = if depN l m i = r + 1 then rowI l m r i ++ [i] else rowI l m r i := by
  unfold rowI
  rw [List.range_succ, List.filter_append]
  by_cases h : depN l m i = r + 1
  · rw [if_pos h, List.filter_cons, decide_eq_true h, if_pos rfl, List.filter_nil]
  · rw [if_neg h, List.filter_cons, decide_eq_false h, if_neg (by decide), List.filter_nil, List.append_nil]
theorem rowI_top (l : List SysV) (m r : Nat) : rowI l m r m = rowR l m r := rfl
theorem rowI_len (l : List SysV) (m r i : Nat) : (rowI l m r i).length ≤ i := by
  unfold rowI
  have := List.length_filter_le (fun j => decide (depN l m j = r + 1)) (List.range i)
  rwa [List.length_range] at this
theorem RowsI.snoc {w : World} {B B2 : Nat} {vs : List Value} {rows : List (List Nat)} (h : RowsI w B vs rows) (v : Value) (row : List Nat) (hown : w.ownsRow B2 3 1 v row.length (vints .i64 (ints row))) (hB : B ≤ B2)
    (hv : ∀ j, j < rows.length → ∀ g, (vs.getD j undef).ownBlock = some g → g < B2) : RowsI w B (vs ++ [v]) (rows ++ [row]) := by
  obtain ⟨h1, h2, h3⟩ := h
  have hvb : ∀ g, v.ownBlock = some g → B2 ≤ g := fun g hg => (own_lt hown g hg).1
  refine ⟨by simp [h1], fun j hj => ?_, fun i j g hi hj hij hg => ?_⟩
  · rw [getD_snoc, getD_snoc, h1]
    by_cases e : j = rows.length
    · rw [if_pos e, if_pos e]; exact own_lower hown hB
    · rw [if_neg e, if_neg e]; exact h2 j (by simp at hj; omega)
  · simp only [List.length_append, List.length_singleton] at hi hj
    rw [getD_snoc, h1] at hg ⊢
    by_cases e : i = rows.length
    · rw [if_pos e] at hg
      have e2 : ¬ j = rows.length := fun h => hij (e.trans h.symm)
      rw [if_neg e2]
      intro h4
      have := hv j (by omega) g h4
      have := hvb g hg
      omega
    · rw [if_neg e] at hg
      by_cases e2 : j = rows.length
      · rw [if_pos e2]
        intro h4
        have := hv i (by omega) g hg
        have := hvb g h4
        omega
      · rw [if_neg e2]
        exact h3 i j g (by omega) (by omega) hij hg
/-- is system i free, as far as the systems below j tell -/
def freeB (l : List SysV) (m r i j : Nat) : Bool := !decide (depN l m i ≤ r) && (List.range j).all fun q => decide (depN l m q ≤ r) || !confB (sysN l q) (sysN l i)
theorem freeB_zero (l : List SysV) (m r i : Nat) : freeB l m r i 0 = !decide (depN l m i ≤ r) := by unfold freeB; simp
theorem freeB_succ (l : List SysV) (m r i j : Nat) : freeB l m r i (j + 1) = (freeB l m r i j && (decide (depN l m j ≤ r) || !confB (sysN l j) (sysN l i))) := by
  unfold freeB
  rw [List.range_succ, List.all_append]
  simp [Bool.and_assoc]
theorem freeB_top (l : List SysV) (m r i : Nat) (hi : i < m) : freeB l m r i i = decide (depN l m i = r + 1) := by
  rw [Bool.eq_iff_iff, decide_eq_true_eq, ← free_iff l m r i hi]
  unfold freeB
  simp only [Bool.and_eq_true, Bool.not_eq_true', decide_eq_false_iff_not, List.all_eq_true, List.mem_range, Bool.or_eq_true, decide_eq_true_eq]
/-- which systems are done behind k of round r's row -/
def doneK (l : List SysV) (m r k : Nat) : List Bool := (List.range m).map fun i => decide (depN l m i ≤ r) || decide (i ∈ (rowR l m r).take k)
theorem doneK_len (l : List SysV) (m r k : Nat) : (doneK l m r k).length = m := by unfold doneK; simp
theorem doneK_zero (l : List SysV) (m r : Nat) : doneK l m r 0 = doneR l m r := by
  unfold doneK doneR
  simp
theorem doneK_get (l : List SysV) (m r k i : Nat) (h : i < (doneK l m r k).length) : (doneK l m r k)[i] = (decide (depN l m i ≤ r) || decide (i ∈ (rowR l m r).take k)) := by
  simp [doneK]
theorem doneK_succ (l : List SysV) (m r k : Nat) (hk : k < (rowR l m r).length) : doneK l m r (k + 1) = (doneK l m r k).set ((rowR l m r).getD k 0) true := by
  refine List.ext_getElem (by rw [List.length_set, doneK_len, doneK_len]) fun i h1 h2 => ?_
  have e : (rowR l m r).getD k 0 = (rowR l m r)[k] := by simp [List.getD_eq_getElem?_getD, hk]
  rw [List.getElem_set, doneK_get, doneK_get, e, List.take_add_one, List.getElem?_eq_getElem hk, Option.toList_some]
  by_cases h : (rowR l m r)[k] = i
  · rw [if_pos h, decide_eq_true (show i ∈ (rowR l m r).take k ++ [(rowR l m r)[k]] by rw [List.mem_append, List.mem_singleton]; exact Or.inr h.symm), Bool.or_true]
  · rw [if_neg h]
    have h' : ¬ i = (rowR l m r)[k] := fun q => h q.symm
    simp only [List.mem_append, List.mem_singleton, h', or_false]
theorem doneK_top (l : List SysV) (m r : Nat) : doneK l m r (rowR l m r).length = doneR l m (r + 1) := by
  unfold doneK doneR
  refine List.map_congr_left fun i hi => ?_
  rw [List.take_length, Bool.eq_iff_iff]
  unfold rowR
  simp only [Bool.or_eq_true, decide_eq_true_eq, List.mem_filter]
  constructor
  · rintro (h | h) <;> omega
  · intro h
    by_cases q : depN l m i ≤ r
    · exact Or.inl q
    · exact Or.inr ⟨hi, by omega⟩
theorem rowR_lt (l : List SysV) (m r k : Nat) (hk : k < (rowR l m r).length) : (rowR l m r).getD k 0 < m := by
  have e : (rowR l m r).getD k 0 = (rowR l m r)[k] := by simp [List.getD_eq_getElem?_getD, hk]
  rw [e]
  have := List.getElem_mem hk
  unfold rowR at this
  exact List.mem_range.1 (List.mem_filter.1 this).1
theorem left_le (l : List SysV) (m r : Nat) : leftR l m r ≤ m := by
  unfold leftR
  have := List.length_filter_le (fun i => decide (r < depN l m i)) (List.range m)
  rwa [List.length_range] at this
theorem left_lt (l : List SysV) (m r : Nat) (h : 0 < leftR l m r) : r < m := by
  unfold leftR at h
  obtain ⟨i, hi⟩ := List.exists_mem_of_length_pos h
  rw [List.mem_filter, List.mem_range, decide_eq_true_eq] at hi
  have := (depL_le l m i hi.1).2
  unfold depN at hi
  omega
theorem RowsI.apart {w w2 : World} {B B2 : Nat} {vs : List Value} {rows : List (List Nat)} {row : Option Nat} (h : RowsI w B vs rows) (hg : w.grownBy w2 row) (hr : ∀ g, row = some g → B2 ≤ g)
    (hv : ∀ j, j < rows.length → ∀ g, (vs.getD j undef).ownBlock = some g → g < B2) : RowsI w2 B vs rows := by
  refine h.keep fun j hj g e => hg.block g (own_lt (h.2.1 j hj) g e).2 fun q => ?_
  have := hr g q.symm
  have := hv j hj g e
  omega
theorem RowsI.setLow {w : World} {B : Nat} {vs : List Value} {rows : List (List Nat)} (h : RowsI w B vs rows) {p : Addr} (hp : p.block < B) (u : Value) : RowsI (w.setCell p u) B vs rows := by
  refine h.keep fun j hj g e => Below.heap_setCell w p u g ?_
  have := (own_lt (h.2.1 j hj) g e).1
  omega
theorem own_setLow {w : World} {base e size n : Nat} {v : Value} {xs : List Value} (h : w.ownsRow base e size v n xs) {p : Addr} (hp : p.block < base) (u : Value) : (w.setCell p u).ownsRow base e size v n xs :=
  own_keep h fun g hg => Below.heap_setCell w p u g (by have := (own_lt h g hg).1; omega)
/-- a slice of slices is given back -/
def SlsPost (rows : List (List Nat)) (e : Ending) (w' : World) : Prop := ∃ a2 c2, e = .returned (.slice a2 rows.length c2) ∧ SlAt 1 IntsIn w' a2 (rows.map ints)
set_option maxHeartbeats 8000000 in
set_option maxRecDepth 20000 in
theorem ref_Rounds (a : Option Addr) (c m : Nat) (l : List SysV) (hm : l.length = m) (h24 : m ≤ 24) (w : World) (ha : SlAt 7 SysAt w a l) :
    Calls Try.prog 14 #[.slice a m c] w fun e w' => SlsPost (layL (depL l m) m) e w' ∧ Below w.heap.size w w' := by
  have HM := Lib.hid hm
  have HA := Lib.hid ha
  clear hm ha
  go_enter Try.func14, Try.ntmps14
  go_wp2_with (at_make; go_must (refine wpList_make_rowL rfl _ _ 55 rfl 4 1 Try.underlying55 (by kernel_rfl) _ _ _ _ m rfl rfl rfl rfl ?b1 ?b2 ?_); (case b1 => omega); (case b2 => unfold maxLen; omega))
  intro w1 hro hb1 hz1
  obtain ⟨G, hG⟩ : ∃ G, G = w.heap.size := ⟨_, rfl⟩
  rw [← hG] at hro hb1 ⊢
  rw [← doneR_zero l m] at hro
  have HRO := Lib.hid hro
  have HG := Lib.hid hG
  obtain ⟨B, hB⟩ : ∃ B, B = w1.heap.size := ⟨_, rfl⟩
  have hGB : G < B := by rw [hB]; exact HRO.out.lt
  have hB1 : B ≤ w1.heap.size := by omega
  have L0 := Lib.hid (left_zero l m)
  clear hro hz1 hG hB
  go_wp2_with fail
  go_loopg [4, 5, 6, 7, 8, 9, 11] m (fun gk v4 v5 _ _ _ _ _ wx => ∃ (r : Nat) (v : Value) (vs : List Value), gk = leftR l m r ∧ v4 = v ∧ v5 = .int .i64 (leftR l m r : Nat) ∧ (r = 0 ∨ 0 < (rowR l m (r - 1)).length) ∧ r ≤ m ∧ wx.ownsRow B 26 1 v r vs ∧ RowsI wx B vs (roundsL l m r) ∧ RowL wx G 4 (doneR l m r) ∧ B ≤ wx.heap.size ∧ Below G w wx)
  case atStart => exact ⟨0, _, [], L0.out.symm, rfl, by rw [L0.out], Or.inl rfl, Nat.zero_le _, World.ownsRow_nil _ _ _ _, RowsI.nil _ _, HRO.out, hB1, hb1⟩
  case round =>
    clear HRO hb1 hB1
    obtain ⟨r, v, vs, g2, hv4, rfl, hrp, hrm, hown, hrows, hro, hBx, hb⟩ := hrel
    have G2 := Lib.hid g2
    obtain ⟨av, cv, hsh⟩ := own_shape hown
    subst hsh
    subst hv4
    have HOWN := Lib.hid hown
    have HROWS := Lib.hid hrows
    have HRO := Lib.hid hro
    have HB := Lib.hid hb
    have HRP := Lib.hid hrp
    clear g2 hown hrows hro hb hrp
    by_cases hl : 0 < leftR l m r
    · have HPOS := Lib.hid (row_pos l m r hl)
      have HST := Lib.hid (left_step l m r)
      have hrm1 := left_lt l m r hl
      have hlfm := left_le l m r
      obtain ⟨lf, hlf⟩ : ∃ lf, lf = leftR l m r := ⟨_, rfl⟩
      rw [← hlf] at hl HST hlfm ⊢
      have HLF := Lib.hid hlf
      clear hlf
      go_wp2_with fail
      obtain ⟨B2, hB2⟩ : ∃ B2, B2 = wr.heap.size := ⟨_, rfl⟩
      have hBB : B ≤ B2 := by omega
      have hG2 : G < B2 := by omega
      have HOLD := Lib.hid (show ∀ j, j < (roundsL l m r).length → ∀ g, (vs.getD j undef).ownBlock = some g → g < B2 from fun j hj g hg => by rw [hB2]; exact (own_lt (HROWS.out.2.1 j hj) g hg).2)
      have HB2 := Lib.hid hB2
      clear hB2
      go_loopg [6, 7, 8, 9, 21] m (fun gk v6 _ _ _ vi wx => ∃ (i : Nat) (v : Value), i ≤ m ∧ gk = m - i ∧ v6 = v ∧ vi = .int .i64 i ∧ wx.ownsRow B2 3 1 v (rowI l m r i).length (vints .i64 (ints (rowI l m r i))) ∧ wx.ownsRow B 26 1 (.slice av r cv) r vs ∧ RowsI wx B vs (roundsL l m r) ∧ RowL wx G 4 (doneR l m r) ∧ B2 ≤ wx.heap.size ∧ Below G w wx)
      case atStart => exact ⟨0, _, Nat.zero_le _, rfl, rfl, rfl, World.ownsRow_nil _ _ _ _, HOWN.out, HROWS.out, HRO.out, by rw [HB2.out]; exact Nat.le_refl _, HB.out⟩
      case round =>
        clear HOWN HROWS HRO HB
        obtain ⟨i, v6, f1, f2, hv6, rfl, hown6, hown, hrows, hro, hBx2, hb⟩ := hrel
        have F2 := Lib.hid f2
        obtain ⟨a6, c6, hsh⟩ := own_shape hown6
        subst hsh
        subst hv6
        have HOWN6 := Lib.hid hown6
        have HOWN := Lib.hid hown
        have HROWS := Lib.hid hrows
        have HRO := Lib.hid hro
        have HB := Lib.hid hb
        clear f2 hown6 hown hrows hro hb
        by_cases hi : i < m
        · have e1 := HRO.out.cell i (by rw [doneR_len]; exact hi)
          rw [doneR_get l m r i hi] at e1
          have hfz := freeB_zero l m r i
          obtain ⟨dn, hdn⟩ : ∃ dn, dn = decide (depN l m i ≤ r) := ⟨_, rfl⟩
          rw [← hdn] at e1 hfz
          have HFZ := Lib.hid hfz
          clear hfz hdn
          go_wp2_with fail
          go_loopg [8, 9, 30] i (fun gk v8 _ vi wx => ∃ j : Nat, j ≤ i ∧ gk = i - j ∧ v8 = .bool (freeB l m r i j) ∧ vi = .int .i64 j ∧ wx.ownsRow B2 3 1 (.slice a6 (rowI l m r i).length c6) (rowI l m r i).length (vints .i64 (ints (rowI l m r i))) ∧ wx.ownsRow B 26 1 (.slice av r cv) r vs ∧ RowsI wx B vs (roundsL l m r) ∧ RowL wx G 4 (doneR l m r) ∧ B2 ≤ wx.heap.size ∧ Below G w wx)
          case atStart => exact ⟨0, Nat.zero_le _, rfl, by rw [HFZ.out], rfl, HOWN6.out, HOWN.out, HROWS.out, HRO.out, hBx2, HB.out⟩
          case round =>
            clear HOWN6 HOWN HROWS HRO HB HFZ
            obtain ⟨j, k1, k2, rfl, rfl, hown6, hown, hrows, hro, hBx2, hb⟩ := hrel
            have K2 := Lib.hid k2
            have HOWN6 := Lib.hid hown6
            have HOWN := Lib.hid hown
            have HROWS := Lib.hid hrows
            have HRO := Lib.hid hro
            have HB := Lib.hid hb
            clear k2 hown6 hown hrows hro hb
            by_cases hj : j < i
            · have hjm : j < m := by omega
              have e1 := HRO.out.cell j (by rw [doneR_len]; exact hjm)
              rw [doneR_get l m r j hjm] at e1
              have hfs := freeB_succ l m r i j
              have hal := HA.out.below SysAt.abides (show Below w.heap.size w wr by rw [← HG.out]; exact HB.out)
              obtain ⟨x, rfl, hx, _⟩ := HA.out (by rw [HM.out]; omega)
              obtain ⟨xb, xo, rfl, s0, a1, n1, c1, a2, n2, c2, a3, n3, c3, a4, n4, c4, a5, n5, c5, a6', n6, c6', hci, hyi⟩ := sys_cells hal i (by rw [HM.out]; exact hi)
              obtain ⟨xb2, xo2, hxx, t0, b1, m1, d1, b2, m2, d2, b3, m3, d3, b4, m4, d4, b5, m5, d5, b6, m6, d6, hcj, hyj⟩ := sys_cells hal j (by rw [HM.out]; exact hjm)
              injection hxx with hx1 hx2
              subst hx1 hx2
              have CC := Lib.hid (fun w' => ref_Clash (.agg #[.string t0, .slice b1 m1 d1, .slice b2 m2 d2, .slice b3 m3 d3, .slice b4 m4 d4, .slice b5 m5 d5, .slice b6 m6 d6]) (.agg #[.string s0, .slice a1 n1 c1, .slice a2 n2 c2, .slice a3 n3 c3, .slice a4 n4 c4, .slice a5 n5 c5, .slice a6' n6 c6']) (sysN l j) (sysN l i) w')
              obtain ⟨cf, hcf⟩ : ∃ cf, cf = confB (sysN l j) (sysN l i) := ⟨_, rfl⟩
              obtain ⟨dn, hdn⟩ : ∃ dn, dn = decide (depN l m j ≤ r) := ⟨_, rfl⟩
              obtain ⟨fr, hfr⟩ : ∃ fr, fr = freeB l m r i j := ⟨_, rfl⟩
              rw [← hcf] at CC hfs
              rw [← hdn] at e1 hfs
              rw [← hfr] at hfs ⊢
              have HFS := Lib.hid hfs
              have E1 := Lib.hid e1
              have C7i := Lib.hid (show Cells7 wr xb (xo + i * 7) _ _ _ _ _ _ _ from hci)
              have C7j := Lib.hid (show Cells7 wr xb (xo + j * 7) _ _ _ _ _ _ _ from hcj)
              have HYI := Lib.hid hyi
              have HYJ := Lib.hid hyj
              clear hfs e1 hal hx hci hcj hyi hyj hcf hdn hfr
              cases fr with
              | false =>
                go_wp2_with fail
                refine wp_region_facts_t rfl 19 (by kernel_rfl) (F_rf G m i j xb xo c s0 a1 n1 c1 a2 n2 c2 a3 n3 c3 a4 n4 c4 a5 n5 c5 a6' n6 c6' t0 b1 m1 d1 b2 m2 d2 b3 m3 d3 b4 m4 d4 b5 m5 d5 b6 m6 d6) (F_rf_mono G m i j xb xo c s0 a1 n1 c1 a2 n2 c2 a3 n3 c3 a4 n4 c4 a5 n5 c5 a6' n6 c6' t0 b1 m1 d1 b2 m2 d2 b3 m3 d3 b4 m4 d4 b5 m5 d5 b6 m6 d6) ?_ ?_
                · refine ⟨?_, ?_, ?_, ?_, ?_, ?_, ?_, ?_, ?_, ?_, ?_, ?_, ?_, ?_, ?_, ?_, ?_, ?_, ?_, trivial⟩
                  · intro vs w' F hb hd hF hl hT
                    have e := ((hF 8).trans (look_at _ 8 19 _ _ (by kernel_rfl) (by kernel_rfl) hl)).trans ((hT 19 (by decide)).trans (show _ = .bool false from by kernel_rfl))
                    exact one_move _ rfl (by first | exact Or.inl rfl | exact Or.inr rfl) ⟨_, rfl, Below.refl _ _, e⟩
                  · intro vs w' F hb hd hF hl hT
                    have e := ((hF 33).trans (look_at _ 33 0 _ _ (by kernel_rfl) (by kernel_rfl) hl)).trans (dep_of (Fact := F_rf G m i j xb xo c s0 a1 n1 c1 a2 n2 c2 a3 n3 c3 a4 n4 c4 a5 n5 c5 a6' n6 c6' t0 b1 m1 d1 b2 m2 d2 b3 m3 d3 b4 m4 d4 b5 m5 d5 b6 m6 d6) hd 0 (by kernel_rfl))
                    exact one_move _ rfl (by first | exact Or.inl rfl | exact Or.inr rfl) ⟨_, rfl, Below.refl _ _, e⟩
                  · intro vs w' F hb hd hF hl hT
                    have eg := ((hF 34).trans (look_at _ 34 1 _ _ (by kernel_rfl) (by kernel_rfl) hl)).trans (dep_of (Fact := F_rf G m i j xb xo c s0 a1 n1 c1 a2 n2 c2 a3 n3 c3 a4 n4 c4 a5 n5 c5 a6' n6 c6' t0 b1 m1 d1 b2 m2 d2 b3 m3 d3 b4 m4 d4 b5 m5 d5 b6 m6 d6) hd 1 (by kernel_rfl))
                    exact wpList_off rfl (t := 34) (d := false) (by kernel_rfl) eg (by decide) ⟨_, rfl, Below.refl _ _, rfl⟩
                  · intro vs w' F hb hd hF hl hT
                    have eg := ((hF 34).trans (look_at _ 34 1 _ _ (by kernel_rfl) (by kernel_rfl) hl)).trans (dep_of (Fact := F_rf G m i j xb xo c s0 a1 n1 c1 a2 n2 c2 a3 n3 c3 a4 n4 c4 a5 n5 c5 a6' n6 c6' t0 b1 m1 d1 b2 m2 d2 b3 m3 d3 b4 m4 d4 b5 m5 d5 b6 m6 d6) hd 1 (by kernel_rfl))
                    exact wpList_off rfl (t := 34) (d := false) (by kernel_rfl) eg (by decide) ⟨_, rfl, Below.refl _ _, rfl⟩
                  · intro vs w' F hb hd hF hl hT
                    have eg := ((hF 34).trans (look_at _ 34 1 _ _ (by kernel_rfl) (by kernel_rfl) hl)).trans (dep_of (Fact := F_rf G m i j xb xo c s0 a1 n1 c1 a2 n2 c2 a3 n3 c3 a4 n4 c4 a5 n5 c5 a6' n6 c6' t0 b1 m1 d1 b2 m2 d2 b3 m3 d3 b4 m4 d4 b5 m5 d5 b6 m6 d6) hd 1 (by kernel_rfl))
                    exact wpList_off rfl (t := 34) (d := false) (by kernel_rfl) eg (by decide) ⟨_, rfl, Below.refl _ _, rfl⟩
                  · intro vs w' F hb hd hF hl hT
                    have eg := ((hF 34).trans (look_at _ 34 1 _ _ (by kernel_rfl) (by kernel_rfl) hl)).trans (dep_of (Fact := F_rf G m i j xb xo c s0 a1 n1 c1 a2 n2 c2 a3 n3 c3 a4 n4 c4 a5 n5 c5 a6' n6 c6' t0 b1 m1 d1 b2 m2 d2 b3 m3 d3 b4 m4 d4 b5 m5 d5 b6 m6 d6) hd 1 (by kernel_rfl))
                    exact wpList_off rfl (t := 34) (d := false) (by kernel_rfl) eg (by decide) ⟨_, rfl, Below.refl _ _, rfl⟩
                  · intro vs w' F hb hd hF hl hT
                    have eg := ((hF 34).trans (look_at _ 34 1 _ _ (by kernel_rfl) (by kernel_rfl) hl)).trans (dep_of (Fact := F_rf G m i j xb xo c s0 a1 n1 c1 a2 n2 c2 a3 n3 c3 a4 n4 c4 a5 n5 c5 a6' n6 c6' t0 b1 m1 d1 b2 m2 d2 b3 m3 d3 b4 m4 d4 b5 m5 d5 b6 m6 d6) hd 1 (by kernel_rfl))
                    exact wpList_off rfl (t := 34) (d := false) (by kernel_rfl) eg (by decide) ⟨_, rfl, Below.refl _ _, rfl⟩
                  · intro vs w' F hb hd hF hl hT
                    have eg := ((hF 39).trans (look_at _ 39 6 _ _ (by kernel_rfl) (by kernel_rfl) hl)).trans (dep_of (Fact := F_rf G m i j xb xo c s0 a1 n1 c1 a2 n2 c2 a3 n3 c3 a4 n4 c4 a5 n5 c5 a6' n6 c6' t0 b1 m1 d1 b2 m2 d2 b3 m3 d3 b4 m4 d4 b5 m5 d5 b6 m6 d6) hd 6 (by kernel_rfl))
                    exact wpList_offu rfl (t := 39) (by kernel_rfl) eg ⟨_, rfl, Below.refl _ _, rfl⟩
                  · intro vs w' F hb hd hF hl hT
                    have eg := ((hF 39).trans (look_at _ 39 6 _ _ (by kernel_rfl) (by kernel_rfl) hl)).trans (dep_of (Fact := F_rf G m i j xb xo c s0 a1 n1 c1 a2 n2 c2 a3 n3 c3 a4 n4 c4 a5 n5 c5 a6' n6 c6' t0 b1 m1 d1 b2 m2 d2 b3 m3 d3 b4 m4 d4 b5 m5 d5 b6 m6 d6) hd 6 (by kernel_rfl))
                    exact wpList_offu rfl (t := 39) (by kernel_rfl) eg ⟨_, rfl, Below.refl _ _, rfl⟩
                  · intro vs w' F hb hd hF hl hT
                    have eg := ((hF 39).trans (look_at _ 39 6 _ _ (by kernel_rfl) (by kernel_rfl) hl)).trans (dep_of (Fact := F_rf G m i j xb xo c s0 a1 n1 c1 a2 n2 c2 a3 n3 c3 a4 n4 c4 a5 n5 c5 a6' n6 c6' t0 b1 m1 d1 b2 m2 d2 b3 m3 d3 b4 m4 d4 b5 m5 d5 b6 m6 d6) hd 6 (by kernel_rfl))
                    exact wpList_offu rfl (t := 39) (by kernel_rfl) eg ⟨_, rfl, Below.refl _ _, rfl⟩
                  · intro vs w' F hb hd hF hl hT
                    have eg := ((hF 39).trans (look_at _ 39 6 _ _ (by kernel_rfl) (by kernel_rfl) hl)).trans (dep_of (Fact := F_rf G m i j xb xo c s0 a1 n1 c1 a2 n2 c2 a3 n3 c3 a4 n4 c4 a5 n5 c5 a6' n6 c6' t0 b1 m1 d1 b2 m2 d2 b3 m3 d3 b4 m4 d4 b5 m5 d5 b6 m6 d6) hd 6 (by kernel_rfl))
                    exact wpList_offu rfl (t := 39) (by kernel_rfl) eg ⟨_, rfl, Below.refl _ _, rfl⟩
                  · intro vs w' F hb hd hF hl hT
                    have eg := ((hF 39).trans (look_at _ 39 6 _ _ (by kernel_rfl) (by kernel_rfl) hl)).trans (dep_of (Fact := F_rf G m i j xb xo c s0 a1 n1 c1 a2 n2 c2 a3 n3 c3 a4 n4 c4 a5 n5 c5 a6' n6 c6' t0 b1 m1 d1 b2 m2 d2 b3 m3 d3 b4 m4 d4 b5 m5 d5 b6 m6 d6) hd 6 (by kernel_rfl))
                    exact wpList_offu rfl (t := 39) (by kernel_rfl) eg ⟨_, rfl, Below.refl _ _, rfl⟩
                  · intro vs w' F hb hd hF hl hT
                    have eg := ((hF 39).trans (look_at _ 39 6 _ _ (by kernel_rfl) (by kernel_rfl) hl)).trans (dep_of (Fact := F_rf G m i j xb xo c s0 a1 n1 c1 a2 n2 c2 a3 n3 c3 a4 n4 c4 a5 n5 c5 a6' n6 c6' t0 b1 m1 d1 b2 m2 d2 b3 m3 d3 b4 m4 d4 b5 m5 d5 b6 m6 d6) hd 6 (by kernel_rfl))
                    exact wpList_offu rfl (t := 39) (by kernel_rfl) eg ⟨_, rfl, Below.refl _ _, rfl⟩
                  · intro vs w' F hb hd hF hl hT
                    have eg := ((hF 39).trans (look_at _ 39 6 _ _ (by kernel_rfl) (by kernel_rfl) hl)).trans (dep_of (Fact := F_rf G m i j xb xo c s0 a1 n1 c1 a2 n2 c2 a3 n3 c3 a4 n4 c4 a5 n5 c5 a6' n6 c6' t0 b1 m1 d1 b2 m2 d2 b3 m3 d3 b4 m4 d4 b5 m5 d5 b6 m6 d6) hd 6 (by kernel_rfl))
                    exact wpList_offu rfl (t := 39) (by kernel_rfl) eg ⟨_, rfl, Below.refl _ _, rfl⟩
                  · intro vs w' F hb hd hF hl hT
                    have eg := ((hF 39).trans (look_at _ 39 6 _ _ (by kernel_rfl) (by kernel_rfl) hl)).trans (dep_of (Fact := F_rf G m i j xb xo c s0 a1 n1 c1 a2 n2 c2 a3 n3 c3 a4 n4 c4 a5 n5 c5 a6' n6 c6' t0 b1 m1 d1 b2 m2 d2 b3 m3 d3 b4 m4 d4 b5 m5 d5 b6 m6 d6) hd 6 (by kernel_rfl))
                    exact wpList_offu rfl (t := 39) (by kernel_rfl) eg ⟨_, rfl, Below.refl _ _, rfl⟩
                  · intro vs w' F hb hd hF hl hT
                    have eg := ((hF 39).trans (look_at _ 39 6 _ _ (by kernel_rfl) (by kernel_rfl) hl)).trans (dep_of (Fact := F_rf G m i j xb xo c s0 a1 n1 c1 a2 n2 c2 a3 n3 c3 a4 n4 c4 a5 n5 c5 a6' n6 c6' t0 b1 m1 d1 b2 m2 d2 b3 m3 d3 b4 m4 d4 b5 m5 d5 b6 m6 d6) hd 6 (by kernel_rfl))
                    exact wpList_offu rfl (t := 39) (by kernel_rfl) eg ⟨_, rfl, Below.refl _ _, rfl⟩
                  · intro vs w' F hb hd hF hl hT
                    have eg := ((hF 39).trans (look_at _ 39 6 _ _ (by kernel_rfl) (by kernel_rfl) hl)).trans (dep_of (Fact := F_rf G m i j xb xo c s0 a1 n1 c1 a2 n2 c2 a3 n3 c3 a4 n4 c4 a5 n5 c5 a6' n6 c6' t0 b1 m1 d1 b2 m2 d2 b3 m3 d3 b4 m4 d4 b5 m5 d5 b6 m6 d6) hd 6 (by kernel_rfl))
                    exact wpList_offu rfl (t := 39) (by kernel_rfl) eg ⟨_, rfl, Below.refl _ _, rfl⟩
                  · intro vs w' F hb hd hF hl hT
                    have eg := ((hF 34).trans (look_at _ 34 1 _ _ (by kernel_rfl) (by kernel_rfl) hl)).trans (dep_of (Fact := F_rf G m i j xb xo c s0 a1 n1 c1 a2 n2 c2 a3 n3 c3 a4 n4 c4 a5 n5 c5 a6' n6 c6' t0 b1 m1 d1 b2 m2 d2 b3 m3 d3 b4 m4 d4 b5 m5 d5 b6 m6 d6) hd 1 (by kernel_rfl))
                    exact wpList_off rfl (t := 34) (d := false) (by kernel_rfl) eg (by decide) ⟨_, rfl, Below.refl _ _, rfl⟩
                  · intro vs w' F hb hd hF hl hT
                    have ec := ((hF 34).trans (look_at _ 34 1 _ _ (by kernel_rfl) (by kernel_rfl) hl)).trans (dep_of (Fact := F_rf G m i j xb xo c s0 a1 n1 c1 a2 n2 c2 a3 n3 c3 a4 n4 c4 a5 n5 c5 a6' n6 c6' t0 b1 m1 d1 b2 m2 d2 b3 m3 d3 b4 m4 d4 b5 m5 d5 b6 m6 d6) hd 1 (by kernel_rfl))
                    exact one_pick_f _ _ _ rfl rfl _ ec rfl ⟨_, rfl, Below.refl _ _, rfl⟩
                · intro vs8 W8 hl hb hI
                  have hv : vs8.getD 18 undef = .bool false := hI 18 (by omega)
                  obtain ⟨x0, x1, x2, x3, x4, x5, x6, x7, x8, x9, x10, x11, x12, x13, x14, x15, x16, x17, x18, x19, hvs⟩ := list20 hl
                  subst hvs
                  replace hv : x18 = .bool false := hv
                  subst hv
                  have H1 := Lib.hid (own_below HOWN6.out hb)
                  have H2 := Lib.hid (own_below HOWN.out hb)
                  have H3 := Lib.hid (HROWS.out.below hb)
                  have H4 := Lib.hid (HRO.out.below hb)
                  have hBx3 : B2 ≤ W8.heap.size := Nat.le_trans hBx2 hb.size
                  have H5 : Below G w W8 := HB.out.trans (hb.mono (Nat.le_of_lt HRO.out.lt))
                  clear hI hl hb HOWN6 HOWN HROWS HRO HB E1 CC C7i C7j HYI HYJ
                  simp only [fillAll, Act.put, List.setIfInBounds_toArray, List.set_cons_succ, List.set_cons_zero]
                  go_wp2
                  go_roundg (i - (j + 1))
                  case measure => rw [K2.out]; omega
                  case rel => exact ⟨j + 1, hj, rfl, by rw [HFS.out]; rfl, by go_num, H1.out, H2.out, H3.out, H4.out, hBx3, H5⟩
              | true =>
                cases dn with
                | true =>
                  go_wp2_with fail
                  refine wp_region_facts_t rfl 19 (by kernel_rfl) (F_rt G m i j xb xo c s0 a1 n1 c1 a2 n2 c2 a3 n3 c3 a4 n4 c4 a5 n5 c5 a6' n6 c6' t0 b1 m1 d1 b2 m2 d2 b3 m3 d3 b4 m4 d4 b5 m5 d5 b6 m6 d6) (F_rt_mono G m i j xb xo c s0 a1 n1 c1 a2 n2 c2 a3 n3 c3 a4 n4 c4 a5 n5 c5 a6' n6 c6' t0 b1 m1 d1 b2 m2 d2 b3 m3 d3 b4 m4 d4 b5 m5 d5 b6 m6 d6) ?_ ?_
                  · refine ⟨?_, ?_, ?_, ?_, ?_, ?_, ?_, ?_, ?_, ?_, ?_, ?_, ?_, ?_, ?_, ?_, ?_, ?_, ?_, trivial⟩
                    · intro vs w' F hb hd hF hl hT
                      have e := ((hF 8).trans (look_at _ 8 19 _ _ (by kernel_rfl) (by kernel_rfl) hl)).trans ((hT 19 (by decide)).trans (show _ = .bool true from by kernel_rfl))
                      exact one_move _ rfl (by first | exact Or.inl rfl | exact Or.inr rfl) ⟨_, rfl, Below.refl _ _, e⟩
                    · intro vs w' F hb hd hF hl hT
                      have e := ((hF 33).trans (look_at _ 33 0 _ _ (by kernel_rfl) (by kernel_rfl) hl)).trans (dep_of (Fact := F_rt G m i j xb xo c s0 a1 n1 c1 a2 n2 c2 a3 n3 c3 a4 n4 c4 a5 n5 c5 a6' n6 c6' t0 b1 m1 d1 b2 m2 d2 b3 m3 d3 b4 m4 d4 b5 m5 d5 b6 m6 d6) hd 0 (by kernel_rfl))
                      exact one_move _ rfl (by first | exact Or.inl rfl | exact Or.inr rfl) ⟨_, rfl, Below.refl _ _, e⟩
                    · intro vs w' F hb hd hF hl hT
                      have eg := ((hF 34).trans (look_at _ 34 1 _ _ (by kernel_rfl) (by kernel_rfl) hl)).trans (dep_of (Fact := F_rt G m i j xb xo c s0 a1 n1 c1 a2 n2 c2 a3 n3 c3 a4 n4 c4 a5 n5 c5 a6' n6 c6' t0 b1 m1 d1 b2 m2 d2 b3 m3 d3 b4 m4 d4 b5 m5 d5 b6 m6 d6) hd 1 (by kernel_rfl))
                      refine wpList_on rfl (t := 34) (by kernel_rfl) eg ?_
                      have e := (hF 3).trans (look_out _ 3 _ _ (by kernel_rfl))
                      exact one_move _ rfl (by first | exact Or.inl rfl | exact Or.inr rfl) ⟨_, rfl, Below.refl _ _, e⟩
                    · intro vs w' F hb hd hF hl hT
                      have eg := ((hF 34).trans (look_at _ 34 1 _ _ (by kernel_rfl) (by kernel_rfl) hl)).trans (dep_of (Fact := F_rt G m i j xb xo c s0 a1 n1 c1 a2 n2 c2 a3 n3 c3 a4 n4 c4 a5 n5 c5 a6' n6 c6' t0 b1 m1 d1 b2 m2 d2 b3 m3 d3 b4 m4 d4 b5 m5 d5 b6 m6 d6) hd 1 (by kernel_rfl))
                      refine wpList_on rfl (t := 34) (by kernel_rfl) eg ?_
                      have e := (hF 9).trans (look_out _ 9 _ _ (by kernel_rfl))
                      exact one_move _ rfl (by first | exact Or.inl rfl | exact Or.inr rfl) ⟨_, rfl, Below.refl _ _, e⟩
                    · intro vs w' F hb hd hF hl hT
                      have eg := ((hF 34).trans (look_at _ 34 1 _ _ (by kernel_rfl) (by kernel_rfl) hl)).trans (dep_of (Fact := F_rt G m i j xb xo c s0 a1 n1 c1 a2 n2 c2 a3 n3 c3 a4 n4 c4 a5 n5 c5 a6' n6 c6' t0 b1 m1 d1 b2 m2 d2 b3 m3 d3 b4 m4 d4 b5 m5 d5 b6 m6 d6) hd 1 (by kernel_rfl))
                      refine wpList_on rfl (t := 34) (by kernel_rfl) eg ?_
                      have ex := (((hF 35).trans (look_at _ 35 2 _ _ (by kernel_rfl) (by kernel_rfl) hl)).trans (dep_of (Fact := F_rt G m i j xb xo c s0 a1 n1 c1 a2 n2 c2 a3 n3 c3 a4 n4 c4 a5 n5 c5 a6' n6 c6' t0 b1 m1 d1 b2 m2 d2 b3 m3 d3 b4 m4 d4 b5 m5 d5 b6 m6 d6) hd 2 (by kernel_rfl)))
                      have ey := (((hF 36).trans (look_at _ 36 3 _ _ (by kernel_rfl) (by kernel_rfl) hl)).trans (dep_of (Fact := F_rt G m i j xb xo c s0 a1 n1 c1 a2 n2 c2 a3 n3 c3 a4 n4 c4 a5 n5 c5 a6' n6 c6' t0 b1 m1 d1 b2 m2 d2 b3 m3 d3 b4 m4 d4 b5 m5 d5 b6 m6 d6) hd 3 (by kernel_rfl)))
                      exact one_index 55 _ _ rfl rfl _ (.int .i64 j) (.pointer (some ⟨G, j, none⟩)) ex ey (fun w => idx_bool G m m j (by omega) w) ⟨_, rfl, Below.refl _ _, rfl⟩
                    · intro vs w' F hb hd hF hl hT
                      have eg := ((hF 34).trans (look_at _ 34 1 _ _ (by kernel_rfl) (by kernel_rfl) hl)).trans (dep_of (Fact := F_rt G m i j xb xo c s0 a1 n1 c1 a2 n2 c2 a3 n3 c3 a4 n4 c4 a5 n5 c5 a6' n6 c6' t0 b1 m1 d1 b2 m2 d2 b3 m3 d3 b4 m4 d4 b5 m5 d5 b6 m6 d6) hd 1 (by kernel_rfl))
                      refine wpList_on rfl (t := 34) (by kernel_rfl) eg ?_
                      have e := ((hF 37).trans (look_at _ 37 4 _ _ (by kernel_rfl) (by kernel_rfl) hl)).trans (dep_of (Fact := F_rt G m i j xb xo c s0 a1 n1 c1 a2 n2 c2 a3 n3 c3 a4 n4 c4 a5 n5 c5 a6' n6 c6' t0 b1 m1 d1 b2 m2 d2 b3 m3 d3 b4 m4 d4 b5 m5 d5 b6 m6 d6) hd 4 (by kernel_rfl))
                      exact one_load _ _ rfl rfl _ _ e (cell_abides E1.out hb) (by kernel_rfl) ⟨_, rfl, Below.refl _ _, rfl⟩
                    · intro vs w' F hb hd hF hl hT
                      have eg := ((hF 34).trans (look_at _ 34 1 _ _ (by kernel_rfl) (by kernel_rfl) hl)).trans (dep_of (Fact := F_rt G m i j xb xo c s0 a1 n1 c1 a2 n2 c2 a3 n3 c3 a4 n4 c4 a5 n5 c5 a6' n6 c6' t0 b1 m1 d1 b2 m2 d2 b3 m3 d3 b4 m4 d4 b5 m5 d5 b6 m6 d6) hd 1 (by kernel_rfl))
                      refine wpList_on rfl (t := 34) (by kernel_rfl) eg ?_
                      have e := ((hF 38).trans (look_at _ 38 5 _ _ (by kernel_rfl) (by kernel_rfl) hl)).trans (dep_of (Fact := F_rt G m i j xb xo c s0 a1 n1 c1 a2 n2 c2 a3 n3 c3 a4 n4 c4 a5 n5 c5 a6' n6 c6' t0 b1 m1 d1 b2 m2 d2 b3 m3 d3 b4 m4 d4 b5 m5 d5 b6 m6 d6) hd 5 (by kernel_rfl))
                      exact one_move _ rfl (by first | exact Or.inl rfl | exact Or.inr rfl) ⟨_, rfl, Below.refl _ _, e⟩
                    · intro vs w' F hb hd hF hl hT
                      have eg := ((hF 39).trans (look_at _ 39 6 _ _ (by kernel_rfl) (by kernel_rfl) hl)).trans (dep_of (Fact := F_rt G m i j xb xo c s0 a1 n1 c1 a2 n2 c2 a3 n3 c3 a4 n4 c4 a5 n5 c5 a6' n6 c6' t0 b1 m1 d1 b2 m2 d2 b3 m3 d3 b4 m4 d4 b5 m5 d5 b6 m6 d6) hd 6 (by kernel_rfl))
                      exact wpList_off rfl (t := 39) (d := true) (by kernel_rfl) eg (by decide) ⟨_, rfl, Below.refl _ _, rfl⟩
                    · intro vs w' F hb hd hF hl hT
                      have eg := ((hF 39).trans (look_at _ 39 6 _ _ (by kernel_rfl) (by kernel_rfl) hl)).trans (dep_of (Fact := F_rt G m i j xb xo c s0 a1 n1 c1 a2 n2 c2 a3 n3 c3 a4 n4 c4 a5 n5 c5 a6' n6 c6' t0 b1 m1 d1 b2 m2 d2 b3 m3 d3 b4 m4 d4 b5 m5 d5 b6 m6 d6) hd 6 (by kernel_rfl))
                      exact wpList_off rfl (t := 39) (d := true) (by kernel_rfl) eg (by decide) ⟨_, rfl, Below.refl _ _, rfl⟩
                    · intro vs w' F hb hd hF hl hT
                      have eg := ((hF 39).trans (look_at _ 39 6 _ _ (by kernel_rfl) (by kernel_rfl) hl)).trans (dep_of (Fact := F_rt G m i j xb xo c s0 a1 n1 c1 a2 n2 c2 a3 n3 c3 a4 n4 c4 a5 n5 c5 a6' n6 c6' t0 b1 m1 d1 b2 m2 d2 b3 m3 d3 b4 m4 d4 b5 m5 d5 b6 m6 d6) hd 6 (by kernel_rfl))
                      exact wpList_off rfl (t := 39) (d := true) (by kernel_rfl) eg (by decide) ⟨_, rfl, Below.refl _ _, rfl⟩
                    · intro vs w' F hb hd hF hl hT
                      have eg := ((hF 39).trans (look_at _ 39 6 _ _ (by kernel_rfl) (by kernel_rfl) hl)).trans (dep_of (Fact := F_rt G m i j xb xo c s0 a1 n1 c1 a2 n2 c2 a3 n3 c3 a4 n4 c4 a5 n5 c5 a6' n6 c6' t0 b1 m1 d1 b2 m2 d2 b3 m3 d3 b4 m4 d4 b5 m5 d5 b6 m6 d6) hd 6 (by kernel_rfl))
                      exact wpList_off rfl (t := 39) (d := true) (by kernel_rfl) eg (by decide) ⟨_, rfl, Below.refl _ _, rfl⟩
                    · intro vs w' F hb hd hF hl hT
                      have eg := ((hF 39).trans (look_at _ 39 6 _ _ (by kernel_rfl) (by kernel_rfl) hl)).trans (dep_of (Fact := F_rt G m i j xb xo c s0 a1 n1 c1 a2 n2 c2 a3 n3 c3 a4 n4 c4 a5 n5 c5 a6' n6 c6' t0 b1 m1 d1 b2 m2 d2 b3 m3 d3 b4 m4 d4 b5 m5 d5 b6 m6 d6) hd 6 (by kernel_rfl))
                      exact wpList_off rfl (t := 39) (d := true) (by kernel_rfl) eg (by decide) ⟨_, rfl, Below.refl _ _, rfl⟩
                    · intro vs w' F hb hd hF hl hT
                      have eg := ((hF 39).trans (look_at _ 39 6 _ _ (by kernel_rfl) (by kernel_rfl) hl)).trans (dep_of (Fact := F_rt G m i j xb xo c s0 a1 n1 c1 a2 n2 c2 a3 n3 c3 a4 n4 c4 a5 n5 c5 a6' n6 c6' t0 b1 m1 d1 b2 m2 d2 b3 m3 d3 b4 m4 d4 b5 m5 d5 b6 m6 d6) hd 6 (by kernel_rfl))
                      exact wpList_off rfl (t := 39) (d := true) (by kernel_rfl) eg (by decide) ⟨_, rfl, Below.refl _ _, rfl⟩
                    · intro vs w' F hb hd hF hl hT
                      have eg := ((hF 39).trans (look_at _ 39 6 _ _ (by kernel_rfl) (by kernel_rfl) hl)).trans (dep_of (Fact := F_rt G m i j xb xo c s0 a1 n1 c1 a2 n2 c2 a3 n3 c3 a4 n4 c4 a5 n5 c5 a6' n6 c6' t0 b1 m1 d1 b2 m2 d2 b3 m3 d3 b4 m4 d4 b5 m5 d5 b6 m6 d6) hd 6 (by kernel_rfl))
                      exact wpList_off rfl (t := 39) (d := true) (by kernel_rfl) eg (by decide) ⟨_, rfl, Below.refl _ _, rfl⟩
                    · intro vs w' F hb hd hF hl hT
                      have eg := ((hF 39).trans (look_at _ 39 6 _ _ (by kernel_rfl) (by kernel_rfl) hl)).trans (dep_of (Fact := F_rt G m i j xb xo c s0 a1 n1 c1 a2 n2 c2 a3 n3 c3 a4 n4 c4 a5 n5 c5 a6' n6 c6' t0 b1 m1 d1 b2 m2 d2 b3 m3 d3 b4 m4 d4 b5 m5 d5 b6 m6 d6) hd 6 (by kernel_rfl))
                      exact wpList_off rfl (t := 39) (d := true) (by kernel_rfl) eg (by decide) ⟨_, rfl, Below.refl _ _, rfl⟩
                    · intro vs w' F hb hd hF hl hT
                      have eg := ((hF 39).trans (look_at _ 39 6 _ _ (by kernel_rfl) (by kernel_rfl) hl)).trans (dep_of (Fact := F_rt G m i j xb xo c s0 a1 n1 c1 a2 n2 c2 a3 n3 c3 a4 n4 c4 a5 n5 c5 a6' n6 c6' t0 b1 m1 d1 b2 m2 d2 b3 m3 d3 b4 m4 d4 b5 m5 d5 b6 m6 d6) hd 6 (by kernel_rfl))
                      exact wpList_off rfl (t := 39) (d := true) (by kernel_rfl) eg (by decide) ⟨_, rfl, Below.refl _ _, rfl⟩
                    · intro vs w' F hb hd hF hl hT
                      have eg := ((hF 39).trans (look_at _ 39 6 _ _ (by kernel_rfl) (by kernel_rfl) hl)).trans (dep_of (Fact := F_rt G m i j xb xo c s0 a1 n1 c1 a2 n2 c2 a3 n3 c3 a4 n4 c4 a5 n5 c5 a6' n6 c6' t0 b1 m1 d1 b2 m2 d2 b3 m3 d3 b4 m4 d4 b5 m5 d5 b6 m6 d6) hd 6 (by kernel_rfl))
                      exact wpList_off rfl (t := 39) (d := true) (by kernel_rfl) eg (by decide) ⟨_, rfl, Below.refl _ _, rfl⟩
                    · intro vs w' F hb hd hF hl hT
                      have eg := ((hF 34).trans (look_at _ 34 1 _ _ (by kernel_rfl) (by kernel_rfl) hl)).trans (dep_of (Fact := F_rt G m i j xb xo c s0 a1 n1 c1 a2 n2 c2 a3 n3 c3 a4 n4 c4 a5 n5 c5 a6' n6 c6' t0 b1 m1 d1 b2 m2 d2 b3 m3 d3 b4 m4 d4 b5 m5 d5 b6 m6 d6) hd 1 (by kernel_rfl))
                      refine wpList_on rfl (t := 34) (by kernel_rfl) eg ?_
                      have ec := ((hF 39).trans (look_at _ 39 6 _ _ (by kernel_rfl) (by kernel_rfl) hl)).trans (dep_of (Fact := F_rt G m i j xb xo c s0 a1 n1 c1 a2 n2 c2 a3 n3 c3 a4 n4 c4 a5 n5 c5 a6' n6 c6' t0 b1 m1 d1 b2 m2 d2 b3 m3 d3 b4 m4 d4 b5 m5 d5 b6 m6 d6) hd 6 (by kernel_rfl))
                      exact one_pick_t _ _ _ rfl rfl _ ec rfl ⟨_, rfl, Below.refl _ _, rfl⟩
                    · intro vs w' F hb hd hF hl hT
                      have ec := ((hF 34).trans (look_at _ 34 1 _ _ (by kernel_rfl) (by kernel_rfl) hl)).trans (dep_of (Fact := F_rt G m i j xb xo c s0 a1 n1 c1 a2 n2 c2 a3 n3 c3 a4 n4 c4 a5 n5 c5 a6' n6 c6' t0 b1 m1 d1 b2 m2 d2 b3 m3 d3 b4 m4 d4 b5 m5 d5 b6 m6 d6) hd 1 (by kernel_rfl))
                      have e := ((hF 50).trans (look_at _ 50 17 _ _ (by kernel_rfl) (by kernel_rfl) hl)).trans (dep_of (Fact := F_rt G m i j xb xo c s0 a1 n1 c1 a2 n2 c2 a3 n3 c3 a4 n4 c4 a5 n5 c5 a6' n6 c6' t0 b1 m1 d1 b2 m2 d2 b3 m3 d3 b4 m4 d4 b5 m5 d5 b6 m6 d6) hd 17 (by kernel_rfl))
                      exact one_pick_t _ _ _ rfl rfl _ ec e ⟨_, rfl, Below.refl _ _, rfl⟩
                  · intro vs8 W8 hl hb hI
                    have hv : vs8.getD 18 undef = .bool true := hI 18 (by omega)
                    obtain ⟨x0, x1, x2, x3, x4, x5, x6, x7, x8, x9, x10, x11, x12, x13, x14, x15, x16, x17, x18, x19, hvs⟩ := list20 hl
                    subst hvs
                    replace hv : x18 = .bool true := hv
                    subst hv
                    have H1 := Lib.hid (own_below HOWN6.out hb)
                    have H2 := Lib.hid (own_below HOWN.out hb)
                    have H3 := Lib.hid (HROWS.out.below hb)
                    have H4 := Lib.hid (HRO.out.below hb)
                    have hBx3 : B2 ≤ W8.heap.size := Nat.le_trans hBx2 hb.size
                    have H5 : Below G w W8 := HB.out.trans (hb.mono (Nat.le_of_lt HRO.out.lt))
                    clear hI hl hb HOWN6 HOWN HROWS HRO HB E1 CC C7i C7j HYI HYJ
                    simp only [fillAll, Act.put, List.setIfInBounds_toArray, List.set_cons_succ, List.set_cons_zero]
                    go_wp2
                    go_roundg (i - (j + 1))
                    case measure => rw [K2.out]; omega
                    case rel => exact ⟨j + 1, hj, rfl, by rw [HFS.out]; rfl, by go_num, H1.out, H2.out, H3.out, H4.out, hBx3, H5⟩
                | false =>
                  cases cf with
                  | true =>
                    go_wp2_with fail
                    refine wp_region_facts_t rfl 19 (by kernel_rfl) (F_rx G m i j xb xo c s0 a1 n1 c1 a2 n2 c2 a3 n3 c3 a4 n4 c4 a5 n5 c5 a6' n6 c6' t0 b1 m1 d1 b2 m2 d2 b3 m3 d3 b4 m4 d4 b5 m5 d5 b6 m6 d6) (F_rx_mono G m i j xb xo c s0 a1 n1 c1 a2 n2 c2 a3 n3 c3 a4 n4 c4 a5 n5 c5 a6' n6 c6' t0 b1 m1 d1 b2 m2 d2 b3 m3 d3 b4 m4 d4 b5 m5 d5 b6 m6 d6) ?_ ?_
                    · refine ⟨?_, ?_, ?_, ?_, ?_, ?_, ?_, ?_, ?_, ?_, ?_, ?_, ?_, ?_, ?_, ?_, ?_, ?_, ?_, trivial⟩
                      · intro vs w' F hb hd hF hl hT
                        have e := ((hF 8).trans (look_at _ 8 19 _ _ (by kernel_rfl) (by kernel_rfl) hl)).trans ((hT 19 (by decide)).trans (show _ = .bool true from by kernel_rfl))
                        exact one_move _ rfl (by first | exact Or.inl rfl | exact Or.inr rfl) ⟨_, rfl, Below.refl _ _, e⟩
                      · intro vs w' F hb hd hF hl hT
                        have e := ((hF 33).trans (look_at _ 33 0 _ _ (by kernel_rfl) (by kernel_rfl) hl)).trans (dep_of (Fact := F_rx G m i j xb xo c s0 a1 n1 c1 a2 n2 c2 a3 n3 c3 a4 n4 c4 a5 n5 c5 a6' n6 c6' t0 b1 m1 d1 b2 m2 d2 b3 m3 d3 b4 m4 d4 b5 m5 d5 b6 m6 d6) hd 0 (by kernel_rfl))
                        exact one_move _ rfl (by first | exact Or.inl rfl | exact Or.inr rfl) ⟨_, rfl, Below.refl _ _, e⟩
                      · intro vs w' F hb hd hF hl hT
                        have eg := ((hF 34).trans (look_at _ 34 1 _ _ (by kernel_rfl) (by kernel_rfl) hl)).trans (dep_of (Fact := F_rx G m i j xb xo c s0 a1 n1 c1 a2 n2 c2 a3 n3 c3 a4 n4 c4 a5 n5 c5 a6' n6 c6' t0 b1 m1 d1 b2 m2 d2 b3 m3 d3 b4 m4 d4 b5 m5 d5 b6 m6 d6) hd 1 (by kernel_rfl))
                        refine wpList_on rfl (t := 34) (by kernel_rfl) eg ?_
                        have e := (hF 3).trans (look_out _ 3 _ _ (by kernel_rfl))
                        exact one_move _ rfl (by first | exact Or.inl rfl | exact Or.inr rfl) ⟨_, rfl, Below.refl _ _, e⟩
                      · intro vs w' F hb hd hF hl hT
                        have eg := ((hF 34).trans (look_at _ 34 1 _ _ (by kernel_rfl) (by kernel_rfl) hl)).trans (dep_of (Fact := F_rx G m i j xb xo c s0 a1 n1 c1 a2 n2 c2 a3 n3 c3 a4 n4 c4 a5 n5 c5 a6' n6 c6' t0 b1 m1 d1 b2 m2 d2 b3 m3 d3 b4 m4 d4 b5 m5 d5 b6 m6 d6) hd 1 (by kernel_rfl))
                        refine wpList_on rfl (t := 34) (by kernel_rfl) eg ?_
                        have e := (hF 9).trans (look_out _ 9 _ _ (by kernel_rfl))
                        exact one_move _ rfl (by first | exact Or.inl rfl | exact Or.inr rfl) ⟨_, rfl, Below.refl _ _, e⟩
                      · intro vs w' F hb hd hF hl hT
                        have eg := ((hF 34).trans (look_at _ 34 1 _ _ (by kernel_rfl) (by kernel_rfl) hl)).trans (dep_of (Fact := F_rx G m i j xb xo c s0 a1 n1 c1 a2 n2 c2 a3 n3 c3 a4 n4 c4 a5 n5 c5 a6' n6 c6' t0 b1 m1 d1 b2 m2 d2 b3 m3 d3 b4 m4 d4 b5 m5 d5 b6 m6 d6) hd 1 (by kernel_rfl))
                        refine wpList_on rfl (t := 34) (by kernel_rfl) eg ?_
                        have ex := (((hF 35).trans (look_at _ 35 2 _ _ (by kernel_rfl) (by kernel_rfl) hl)).trans (dep_of (Fact := F_rx G m i j xb xo c s0 a1 n1 c1 a2 n2 c2 a3 n3 c3 a4 n4 c4 a5 n5 c5 a6' n6 c6' t0 b1 m1 d1 b2 m2 d2 b3 m3 d3 b4 m4 d4 b5 m5 d5 b6 m6 d6) hd 2 (by kernel_rfl)))
                        have ey := (((hF 36).trans (look_at _ 36 3 _ _ (by kernel_rfl) (by kernel_rfl) hl)).trans (dep_of (Fact := F_rx G m i j xb xo c s0 a1 n1 c1 a2 n2 c2 a3 n3 c3 a4 n4 c4 a5 n5 c5 a6' n6 c6' t0 b1 m1 d1 b2 m2 d2 b3 m3 d3 b4 m4 d4 b5 m5 d5 b6 m6 d6) hd 3 (by kernel_rfl)))
                        exact one_index 55 _ _ rfl rfl _ (.int .i64 j) (.pointer (some ⟨G, j, none⟩)) ex ey (fun w => idx_bool G m m j (by omega) w) ⟨_, rfl, Below.refl _ _, rfl⟩
                      · intro vs w' F hb hd hF hl hT
                        have eg := ((hF 34).trans (look_at _ 34 1 _ _ (by kernel_rfl) (by kernel_rfl) hl)).trans (dep_of (Fact := F_rx G m i j xb xo c s0 a1 n1 c1 a2 n2 c2 a3 n3 c3 a4 n4 c4 a5 n5 c5 a6' n6 c6' t0 b1 m1 d1 b2 m2 d2 b3 m3 d3 b4 m4 d4 b5 m5 d5 b6 m6 d6) hd 1 (by kernel_rfl))
                        refine wpList_on rfl (t := 34) (by kernel_rfl) eg ?_
                        have e := ((hF 37).trans (look_at _ 37 4 _ _ (by kernel_rfl) (by kernel_rfl) hl)).trans (dep_of (Fact := F_rx G m i j xb xo c s0 a1 n1 c1 a2 n2 c2 a3 n3 c3 a4 n4 c4 a5 n5 c5 a6' n6 c6' t0 b1 m1 d1 b2 m2 d2 b3 m3 d3 b4 m4 d4 b5 m5 d5 b6 m6 d6) hd 4 (by kernel_rfl))
                        exact one_load _ _ rfl rfl _ _ e (cell_abides E1.out hb) (by kernel_rfl) ⟨_, rfl, Below.refl _ _, rfl⟩
                      · intro vs w' F hb hd hF hl hT
                        have eg := ((hF 34).trans (look_at _ 34 1 _ _ (by kernel_rfl) (by kernel_rfl) hl)).trans (dep_of (Fact := F_rx G m i j xb xo c s0 a1 n1 c1 a2 n2 c2 a3 n3 c3 a4 n4 c4 a5 n5 c5 a6' n6 c6' t0 b1 m1 d1 b2 m2 d2 b3 m3 d3 b4 m4 d4 b5 m5 d5 b6 m6 d6) hd 1 (by kernel_rfl))
                        refine wpList_on rfl (t := 34) (by kernel_rfl) eg ?_
                        have e := ((hF 38).trans (look_at _ 38 5 _ _ (by kernel_rfl) (by kernel_rfl) hl)).trans (dep_of (Fact := F_rx G m i j xb xo c s0 a1 n1 c1 a2 n2 c2 a3 n3 c3 a4 n4 c4 a5 n5 c5 a6' n6 c6' t0 b1 m1 d1 b2 m2 d2 b3 m3 d3 b4 m4 d4 b5 m5 d5 b6 m6 d6) hd 5 (by kernel_rfl))
                        exact one_move _ rfl (by first | exact Or.inl rfl | exact Or.inr rfl) ⟨_, rfl, Below.refl _ _, e⟩
                      · intro vs w' F hb hd hF hl hT
                        have eg := ((hF 39).trans (look_at _ 39 6 _ _ (by kernel_rfl) (by kernel_rfl) hl)).trans (dep_of (Fact := F_rx G m i j xb xo c s0 a1 n1 c1 a2 n2 c2 a3 n3 c3 a4 n4 c4 a5 n5 c5 a6' n6 c6' t0 b1 m1 d1 b2 m2 d2 b3 m3 d3 b4 m4 d4 b5 m5 d5 b6 m6 d6) hd 6 (by kernel_rfl))
                        refine wpList_on rfl (t := 39) (by kernel_rfl) eg ?_
                        have e := (hF 0).trans (look_out _ 0 _ _ (by kernel_rfl))
                        exact one_move _ rfl (by first | exact Or.inl rfl | exact Or.inr rfl) ⟨_, rfl, Below.refl _ _, e⟩
                      · intro vs w' F hb hd hF hl hT
                        have eg := ((hF 39).trans (look_at _ 39 6 _ _ (by kernel_rfl) (by kernel_rfl) hl)).trans (dep_of (Fact := F_rx G m i j xb xo c s0 a1 n1 c1 a2 n2 c2 a3 n3 c3 a4 n4 c4 a5 n5 c5 a6' n6 c6' t0 b1 m1 d1 b2 m2 d2 b3 m3 d3 b4 m4 d4 b5 m5 d5 b6 m6 d6) hd 6 (by kernel_rfl))
                        refine wpList_on rfl (t := 39) (by kernel_rfl) eg ?_
                        have e := (hF 9).trans (look_out _ 9 _ _ (by kernel_rfl))
                        exact one_move _ rfl (by first | exact Or.inl rfl | exact Or.inr rfl) ⟨_, rfl, Below.refl _ _, e⟩
                      · intro vs w' F hb hd hF hl hT
                        have eg := ((hF 39).trans (look_at _ 39 6 _ _ (by kernel_rfl) (by kernel_rfl) hl)).trans (dep_of (Fact := F_rx G m i j xb xo c s0 a1 n1 c1 a2 n2 c2 a3 n3 c3 a4 n4 c4 a5 n5 c5 a6' n6 c6' t0 b1 m1 d1 b2 m2 d2 b3 m3 d3 b4 m4 d4 b5 m5 d5 b6 m6 d6) hd 6 (by kernel_rfl))
                        refine wpList_on rfl (t := 39) (by kernel_rfl) eg ?_
                        have ex := (((hF 40).trans (look_at _ 40 7 _ _ (by kernel_rfl) (by kernel_rfl) hl)).trans (dep_of (Fact := F_rx G m i j xb xo c s0 a1 n1 c1 a2 n2 c2 a3 n3 c3 a4 n4 c4 a5 n5 c5 a6' n6 c6' t0 b1 m1 d1 b2 m2 d2 b3 m3 d3 b4 m4 d4 b5 m5 d5 b6 m6 d6) hd 7 (by kernel_rfl)))
                        have ey := (((hF 41).trans (look_at _ 41 8 _ _ (by kernel_rfl) (by kernel_rfl) hl)).trans (dep_of (Fact := F_rx G m i j xb xo c s0 a1 n1 c1 a2 n2 c2 a3 n3 c3 a4 n4 c4 a5 n5 c5 a6' n6 c6' t0 b1 m1 d1 b2 m2 d2 b3 m3 d3 b4 m4 d4 b5 m5 d5 b6 m6 d6) hd 8 (by kernel_rfl)))
                        exact one_index 22 _ _ rfl rfl (.slice (some ⟨xb, xo, none⟩) m c) (.int .i64 j) (.pointer (some ⟨xb, xo + j * 7, none⟩)) ex ey (fun w => idx_sys xb xo m c j (by omega) w) ⟨_, rfl, Below.refl _ _, rfl⟩
                      · intro vs w' F hb hd hF hl hT
                        have eg := ((hF 39).trans (look_at _ 39 6 _ _ (by kernel_rfl) (by kernel_rfl) hl)).trans (dep_of (Fact := F_rx G m i j xb xo c s0 a1 n1 c1 a2 n2 c2 a3 n3 c3 a4 n4 c4 a5 n5 c5 a6' n6 c6' t0 b1 m1 d1 b2 m2 d2 b3 m3 d3 b4 m4 d4 b5 m5 d5 b6 m6 d6) hd 6 (by kernel_rfl))
                        refine wpList_on rfl (t := 39) (by kernel_rfl) eg ?_
                        have e := (((hF 42).trans (look_at _ 42 9 _ _ (by kernel_rfl) (by kernel_rfl) hl)).trans (dep_of (Fact := F_rx G m i j xb xo c s0 a1 n1 c1 a2 n2 c2 a3 n3 c3 a4 n4 c4 a5 n5 c5 a6' n6 c6' t0 b1 m1 d1 b2 m2 d2 b3 m3 d3 b4 m4 d4 b5 m5 d5 b6 m6 d6) hd 9 (by kernel_rfl)))
                        exact one_load7 30 _ rfl rfl xb (xo + j * 7) _ _ _ _ _ _ _ e (C7j.out.below hb) _ Try.underlying30 rfl (by kernel_rfl) ⟨_, rfl, Below.refl _ _, rfl⟩
                      · intro vs w' F hb hd hF hl hT
                        have eg := ((hF 39).trans (look_at _ 39 6 _ _ (by kernel_rfl) (by kernel_rfl) hl)).trans (dep_of (Fact := F_rx G m i j xb xo c s0 a1 n1 c1 a2 n2 c2 a3 n3 c3 a4 n4 c4 a5 n5 c5 a6' n6 c6' t0 b1 m1 d1 b2 m2 d2 b3 m3 d3 b4 m4 d4 b5 m5 d5 b6 m6 d6) hd 6 (by kernel_rfl))
                        refine wpList_on rfl (t := 39) (by kernel_rfl) eg ?_
                        have e := (hF 0).trans (look_out _ 0 _ _ (by kernel_rfl))
                        exact one_move _ rfl (by first | exact Or.inl rfl | exact Or.inr rfl) ⟨_, rfl, Below.refl _ _, e⟩
                      · intro vs w' F hb hd hF hl hT
                        have eg := ((hF 39).trans (look_at _ 39 6 _ _ (by kernel_rfl) (by kernel_rfl) hl)).trans (dep_of (Fact := F_rx G m i j xb xo c s0 a1 n1 c1 a2 n2 c2 a3 n3 c3 a4 n4 c4 a5 n5 c5 a6' n6 c6' t0 b1 m1 d1 b2 m2 d2 b3 m3 d3 b4 m4 d4 b5 m5 d5 b6 m6 d6) hd 6 (by kernel_rfl))
                        refine wpList_on rfl (t := 39) (by kernel_rfl) eg ?_
                        have e := (hF 7).trans (look_out _ 7 _ _ (by kernel_rfl))
                        exact one_move _ rfl (by first | exact Or.inl rfl | exact Or.inr rfl) ⟨_, rfl, Below.refl _ _, e⟩
                      · intro vs w' F hb hd hF hl hT
                        have eg := ((hF 39).trans (look_at _ 39 6 _ _ (by kernel_rfl) (by kernel_rfl) hl)).trans (dep_of (Fact := F_rx G m i j xb xo c s0 a1 n1 c1 a2 n2 c2 a3 n3 c3 a4 n4 c4 a5 n5 c5 a6' n6 c6' t0 b1 m1 d1 b2 m2 d2 b3 m3 d3 b4 m4 d4 b5 m5 d5 b6 m6 d6) hd 6 (by kernel_rfl))
                        refine wpList_on rfl (t := 39) (by kernel_rfl) eg ?_
                        have ex := (((hF 44).trans (look_at _ 44 11 _ _ (by kernel_rfl) (by kernel_rfl) hl)).trans (dep_of (Fact := F_rx G m i j xb xo c s0 a1 n1 c1 a2 n2 c2 a3 n3 c3 a4 n4 c4 a5 n5 c5 a6' n6 c6' t0 b1 m1 d1 b2 m2 d2 b3 m3 d3 b4 m4 d4 b5 m5 d5 b6 m6 d6) hd 11 (by kernel_rfl)))
                        have ey := (((hF 45).trans (look_at _ 45 12 _ _ (by kernel_rfl) (by kernel_rfl) hl)).trans (dep_of (Fact := F_rx G m i j xb xo c s0 a1 n1 c1 a2 n2 c2 a3 n3 c3 a4 n4 c4 a5 n5 c5 a6' n6 c6' t0 b1 m1 d1 b2 m2 d2 b3 m3 d3 b4 m4 d4 b5 m5 d5 b6 m6 d6) hd 12 (by kernel_rfl)))
                        exact one_index 22 _ _ rfl rfl (.slice (some ⟨xb, xo, none⟩) m c) (.int .i64 i) (.pointer (some ⟨xb, xo + i * 7, none⟩)) ex ey (fun w => idx_sys xb xo m c i (by omega) w) ⟨_, rfl, Below.refl _ _, rfl⟩
                      · intro vs w' F hb hd hF hl hT
                        have eg := ((hF 39).trans (look_at _ 39 6 _ _ (by kernel_rfl) (by kernel_rfl) hl)).trans (dep_of (Fact := F_rx G m i j xb xo c s0 a1 n1 c1 a2 n2 c2 a3 n3 c3 a4 n4 c4 a5 n5 c5 a6' n6 c6' t0 b1 m1 d1 b2 m2 d2 b3 m3 d3 b4 m4 d4 b5 m5 d5 b6 m6 d6) hd 6 (by kernel_rfl))
                        refine wpList_on rfl (t := 39) (by kernel_rfl) eg ?_
                        have e := (((hF 46).trans (look_at _ 46 13 _ _ (by kernel_rfl) (by kernel_rfl) hl)).trans (dep_of (Fact := F_rx G m i j xb xo c s0 a1 n1 c1 a2 n2 c2 a3 n3 c3 a4 n4 c4 a5 n5 c5 a6' n6 c6' t0 b1 m1 d1 b2 m2 d2 b3 m3 d3 b4 m4 d4 b5 m5 d5 b6 m6 d6) hd 13 (by kernel_rfl)))
                        exact one_load7 30 _ rfl rfl xb (xo + i * 7) _ _ _ _ _ _ _ e (C7i.out.below hb) _ Try.underlying30 rfl (by kernel_rfl) ⟨_, rfl, Below.refl _ _, rfl⟩
                      · intro vs w' F hb hd hF hl hT
                        have eg := ((hF 39).trans (look_at _ 39 6 _ _ (by kernel_rfl) (by kernel_rfl) hl)).trans (dep_of (Fact := F_rx G m i j xb xo c s0 a1 n1 c1 a2 n2 c2 a3 n3 c3 a4 n4 c4 a5 n5 c5 a6' n6 c6' t0 b1 m1 d1 b2 m2 d2 b3 m3 d3 b4 m4 d4 b5 m5 d5 b6 m6 d6) hd 6 (by kernel_rfl))
                        refine wpList_on rfl (t := 39) (by kernel_rfl) eg ?_
                        refine one_call _ _ rfl rfl (enters_of Try.func12 (by kernel_rfl) rfl) #[.agg #[.string t0, .slice b1 m1 d1, .slice b2 m2 d2, .slice b3 m3 d3, .slice b4 m4 d4, .slice b5 m5 d5, .slice b6 m6 d6], .agg #[.string s0, .slice a1 n1 c1, .slice a2 n2 c2, .slice a3 n3 c3, .slice a4 n4 c4, .slice a5 n5 c5, .slice a6' n6 c6']] (eval2 (((hF 43).trans (look_at _ 43 10 _ _ (by kernel_rfl) (by kernel_rfl) hl)).trans (dep_of (Fact := F_rx G m i j xb xo c s0 a1 n1 c1 a2 n2 c2 a3 n3 c3 a4 n4 c4 a5 n5 c5 a6' n6 c6' t0 b1 m1 d1 b2 m2 d2 b3 m3 d3 b4 m4 d4 b5 m5 d5 b6 m6 d6) hd 10 (by kernel_rfl))) (((hF 47).trans (look_at _ 47 14 _ _ (by kernel_rfl) (by kernel_rfl) hl)).trans (dep_of (Fact := F_rx G m i j xb xo c s0 a1 n1 c1 a2 n2 c2 a3 n3 c3 a4 n4 c4 a5 n5 c5 a6' n6 c6' t0 b1 m1 d1 b2 m2 d2 b3 m3 d3 b4 m4 d4 b5 m5 d5 b6 m6 d6) hd 14 (by kernel_rfl)))) ?_
                        refine (CC.out w' (HYJ.out.below hb) (HYI.out.below hb)).mono ?_
                        rintro e2 w2 ⟨rfl, hb2⟩
                        exact ⟨_, rfl, _, rfl, hb2, rfl⟩
                      · intro vs w' F hb hd hF hl hT
                        have eg := ((hF 39).trans (look_at _ 39 6 _ _ (by kernel_rfl) (by kernel_rfl) hl)).trans (dep_of (Fact := F_rx G m i j xb xo c s0 a1 n1 c1 a2 n2 c2 a3 n3 c3 a4 n4 c4 a5 n5 c5 a6' n6 c6' t0 b1 m1 d1 b2 m2 d2 b3 m3 d3 b4 m4 d4 b5 m5 d5 b6 m6 d6) hd 6 (by kernel_rfl))
                        refine wpList_on rfl (t := 39) (by kernel_rfl) eg ?_
                        have e := ((hF 48).trans (look_at _ 48 15 _ _ (by kernel_rfl) (by kernel_rfl) hl)).trans (dep_of (Fact := F_rx G m i j xb xo c s0 a1 n1 c1 a2 n2 c2 a3 n3 c3 a4 n4 c4 a5 n5 c5 a6' n6 c6' t0 b1 m1 d1 b2 m2 d2 b3 m3 d3 b4 m4 d4 b5 m5 d5 b6 m6 d6) hd 15 (by kernel_rfl))
                        exact one_not _ _ rfl rfl _ false e rfl ⟨_, rfl, Below.refl _ _, rfl⟩
                      · intro vs w' F hb hd hF hl hT
                        have eg := ((hF 34).trans (look_at _ 34 1 _ _ (by kernel_rfl) (by kernel_rfl) hl)).trans (dep_of (Fact := F_rx G m i j xb xo c s0 a1 n1 c1 a2 n2 c2 a3 n3 c3 a4 n4 c4 a5 n5 c5 a6' n6 c6' t0 b1 m1 d1 b2 m2 d2 b3 m3 d3 b4 m4 d4 b5 m5 d5 b6 m6 d6) hd 1 (by kernel_rfl))
                        refine wpList_on rfl (t := 34) (by kernel_rfl) eg ?_
                        have ec := ((hF 39).trans (look_at _ 39 6 _ _ (by kernel_rfl) (by kernel_rfl) hl)).trans (dep_of (Fact := F_rx G m i j xb xo c s0 a1 n1 c1 a2 n2 c2 a3 n3 c3 a4 n4 c4 a5 n5 c5 a6' n6 c6' t0 b1 m1 d1 b2 m2 d2 b3 m3 d3 b4 m4 d4 b5 m5 d5 b6 m6 d6) hd 6 (by kernel_rfl))
                        have e := ((hF 49).trans (look_at _ 49 16 _ _ (by kernel_rfl) (by kernel_rfl) hl)).trans (dep_of (Fact := F_rx G m i j xb xo c s0 a1 n1 c1 a2 n2 c2 a3 n3 c3 a4 n4 c4 a5 n5 c5 a6' n6 c6' t0 b1 m1 d1 b2 m2 d2 b3 m3 d3 b4 m4 d4 b5 m5 d5 b6 m6 d6) hd 16 (by kernel_rfl))
                        exact one_pick_f _ _ _ rfl rfl _ ec e ⟨_, rfl, Below.refl _ _, rfl⟩
                      · intro vs w' F hb hd hF hl hT
                        have ec := ((hF 34).trans (look_at _ 34 1 _ _ (by kernel_rfl) (by kernel_rfl) hl)).trans (dep_of (Fact := F_rx G m i j xb xo c s0 a1 n1 c1 a2 n2 c2 a3 n3 c3 a4 n4 c4 a5 n5 c5 a6' n6 c6' t0 b1 m1 d1 b2 m2 d2 b3 m3 d3 b4 m4 d4 b5 m5 d5 b6 m6 d6) hd 1 (by kernel_rfl))
                        have e := ((hF 50).trans (look_at _ 50 17 _ _ (by kernel_rfl) (by kernel_rfl) hl)).trans (dep_of (Fact := F_rx G m i j xb xo c s0 a1 n1 c1 a2 n2 c2 a3 n3 c3 a4 n4 c4 a5 n5 c5 a6' n6 c6' t0 b1 m1 d1 b2 m2 d2 b3 m3 d3 b4 m4 d4 b5 m5 d5 b6 m6 d6) hd 17 (by kernel_rfl))
                        exact one_pick_t _ _ _ rfl rfl _ ec e ⟨_, rfl, Below.refl _ _, rfl⟩
                    · intro vs8 W8 hl hb hI
                      have hv : vs8.getD 18 undef = .bool false := hI 18 (by omega)
                      obtain ⟨x0, x1, x2, x3, x4, x5, x6, x7, x8, x9, x10, x11, x12, x13, x14, x15, x16, x17, x18, x19, hvs⟩ := list20 hl
                      subst hvs
                      replace hv : x18 = .bool false := hv
                      subst hv
                      have H1 := Lib.hid (own_below HOWN6.out hb)
                      have H2 := Lib.hid (own_below HOWN.out hb)
                      have H3 := Lib.hid (HROWS.out.below hb)
                      have H4 := Lib.hid (HRO.out.below hb)
                      have hBx3 : B2 ≤ W8.heap.size := Nat.le_trans hBx2 hb.size
                      have H5 : Below G w W8 := HB.out.trans (hb.mono (Nat.le_of_lt HRO.out.lt))
                      clear hI hl hb HOWN6 HOWN HROWS HRO HB E1 CC C7i C7j HYI HYJ
                      simp only [fillAll, Act.put, List.setIfInBounds_toArray, List.set_cons_succ, List.set_cons_zero]
                      go_wp2
                      go_roundg (i - (j + 1))
                      case measure => rw [K2.out]; omega
                      case rel => exact ⟨j + 1, hj, rfl, by rw [HFS.out]; rfl, by go_num, H1.out, H2.out, H3.out, H4.out, hBx3, H5⟩
                  | false =>
                    go_wp2_with fail
                    refine wp_region_facts_t rfl 19 (by kernel_rfl) (F_ry G m i j xb xo c s0 a1 n1 c1 a2 n2 c2 a3 n3 c3 a4 n4 c4 a5 n5 c5 a6' n6 c6' t0 b1 m1 d1 b2 m2 d2 b3 m3 d3 b4 m4 d4 b5 m5 d5 b6 m6 d6) (F_ry_mono G m i j xb xo c s0 a1 n1 c1 a2 n2 c2 a3 n3 c3 a4 n4 c4 a5 n5 c5 a6' n6 c6' t0 b1 m1 d1 b2 m2 d2 b3 m3 d3 b4 m4 d4 b5 m5 d5 b6 m6 d6) ?_ ?_
                    · refine ⟨?_, ?_, ?_, ?_, ?_, ?_, ?_, ?_, ?_, ?_, ?_, ?_, ?_, ?_, ?_, ?_, ?_, ?_, ?_, trivial⟩
                      · intro vs w' F hb hd hF hl hT
                        have e := ((hF 8).trans (look_at _ 8 19 _ _ (by kernel_rfl) (by kernel_rfl) hl)).trans ((hT 19 (by decide)).trans (show _ = .bool true from by kernel_rfl))
                        exact one_move _ rfl (by first | exact Or.inl rfl | exact Or.inr rfl) ⟨_, rfl, Below.refl _ _, e⟩
                      · intro vs w' F hb hd hF hl hT
                        have e := ((hF 33).trans (look_at _ 33 0 _ _ (by kernel_rfl) (by kernel_rfl) hl)).trans (dep_of (Fact := F_ry G m i j xb xo c s0 a1 n1 c1 a2 n2 c2 a3 n3 c3 a4 n4 c4 a5 n5 c5 a6' n6 c6' t0 b1 m1 d1 b2 m2 d2 b3 m3 d3 b4 m4 d4 b5 m5 d5 b6 m6 d6) hd 0 (by kernel_rfl))
                        exact one_move _ rfl (by first | exact Or.inl rfl | exact Or.inr rfl) ⟨_, rfl, Below.refl _ _, e⟩
                      · intro vs w' F hb hd hF hl hT
                        have eg := ((hF 34).trans (look_at _ 34 1 _ _ (by kernel_rfl) (by kernel_rfl) hl)).trans (dep_of (Fact := F_ry G m i j xb xo c s0 a1 n1 c1 a2 n2 c2 a3 n3 c3 a4 n4 c4 a5 n5 c5 a6' n6 c6' t0 b1 m1 d1 b2 m2 d2 b3 m3 d3 b4 m4 d4 b5 m5 d5 b6 m6 d6) hd 1 (by kernel_rfl))
                        refine wpList_on rfl (t := 34) (by kernel_rfl) eg ?_
                        have e := (hF 3).trans (look_out _ 3 _ _ (by kernel_rfl))
                        exact one_move _ rfl (by first | exact Or.inl rfl | exact Or.inr rfl) ⟨_, rfl, Below.refl _ _, e⟩
                      · intro vs w' F hb hd hF hl hT
                        have eg := ((hF 34).trans (look_at _ 34 1 _ _ (by kernel_rfl) (by kernel_rfl) hl)).trans (dep_of (Fact := F_ry G m i j xb xo c s0 a1 n1 c1 a2 n2 c2 a3 n3 c3 a4 n4 c4 a5 n5 c5 a6' n6 c6' t0 b1 m1 d1 b2 m2 d2 b3 m3 d3 b4 m4 d4 b5 m5 d5 b6 m6 d6) hd 1 (by kernel_rfl))
                        refine wpList_on rfl (t := 34) (by kernel_rfl) eg ?_
                        have e := (hF 9).trans (look_out _ 9 _ _ (by kernel_rfl))
                        exact one_move _ rfl (by first | exact Or.inl rfl | exact Or.inr rfl) ⟨_, rfl, Below.refl _ _, e⟩
                      · intro vs w' F hb hd hF hl hT
                        have eg := ((hF 34).trans (look_at _ 34 1 _ _ (by kernel_rfl) (by kernel_rfl) hl)).trans (dep_of (Fact := F_ry G m i j xb xo c s0 a1 n1 c1 a2 n2 c2 a3 n3 c3 a4 n4 c4 a5 n5 c5 a6' n6 c6' t0 b1 m1 d1 b2 m2 d2 b3 m3 d3 b4 m4 d4 b5 m5 d5 b6 m6 d6) hd 1 (by kernel_rfl))
                        refine wpList_on rfl (t := 34) (by kernel_rfl) eg ?_
                        have ex := (((hF 35).trans (look_at _ 35 2 _ _ (by kernel_rfl) (by kernel_rfl) hl)).trans (dep_of (Fact := F_ry G m i j xb xo c s0 a1 n1 c1 a2 n2 c2 a3 n3 c3 a4 n4 c4 a5 n5 c5 a6' n6 c6' t0 b1 m1 d1 b2 m2 d2 b3 m3 d3 b4 m4 d4 b5 m5 d5 b6 m6 d6) hd 2 (by kernel_rfl)))
                        have ey := (((hF 36).trans (look_at _ 36 3 _ _ (by kernel_rfl) (by kernel_rfl) hl)).trans (dep_of (Fact := F_ry G m i j xb xo c s0 a1 n1 c1 a2 n2 c2 a3 n3 c3 a4 n4 c4 a5 n5 c5 a6' n6 c6' t0 b1 m1 d1 b2 m2 d2 b3 m3 d3 b4 m4 d4 b5 m5 d5 b6 m6 d6) hd 3 (by kernel_rfl)))
                        exact one_index 55 _ _ rfl rfl _ (.int .i64 j) (.pointer (some ⟨G, j, none⟩)) ex ey (fun w => idx_bool G m m j (by omega) w) ⟨_, rfl, Below.refl _ _, rfl⟩
                      · intro vs w' F hb hd hF hl hT
                        have eg := ((hF 34).trans (look_at _ 34 1 _ _ (by kernel_rfl) (by kernel_rfl) hl)).trans (dep_of (Fact := F_ry G m i j xb xo c s0 a1 n1 c1 a2 n2 c2 a3 n3 c3 a4 n4 c4 a5 n5 c5 a6' n6 c6' t0 b1 m1 d1 b2 m2 d2 b3 m3 d3 b4 m4 d4 b5 m5 d5 b6 m6 d6) hd 1 (by kernel_rfl))
                        refine wpList_on rfl (t := 34) (by kernel_rfl) eg ?_
                        have e := ((hF 37).trans (look_at _ 37 4 _ _ (by kernel_rfl) (by kernel_rfl) hl)).trans (dep_of (Fact := F_ry G m i j xb xo c s0 a1 n1 c1 a2 n2 c2 a3 n3 c3 a4 n4 c4 a5 n5 c5 a6' n6 c6' t0 b1 m1 d1 b2 m2 d2 b3 m3 d3 b4 m4 d4 b5 m5 d5 b6 m6 d6) hd 4 (by kernel_rfl))
                        exact one_load _ _ rfl rfl _ _ e (cell_abides E1.out hb) (by kernel_rfl) ⟨_, rfl, Below.refl _ _, rfl⟩
                      · intro vs w' F hb hd hF hl hT
                        have eg := ((hF 34).trans (look_at _ 34 1 _ _ (by kernel_rfl) (by kernel_rfl) hl)).trans (dep_of (Fact := F_ry G m i j xb xo c s0 a1 n1 c1 a2 n2 c2 a3 n3 c3 a4 n4 c4 a5 n5 c5 a6' n6 c6' t0 b1 m1 d1 b2 m2 d2 b3 m3 d3 b4 m4 d4 b5 m5 d5 b6 m6 d6) hd 1 (by kernel_rfl))
                        refine wpList_on rfl (t := 34) (by kernel_rfl) eg ?_
                        have e := ((hF 38).trans (look_at _ 38 5 _ _ (by kernel_rfl) (by kernel_rfl) hl)).trans (dep_of (Fact := F_ry G m i j xb xo c s0 a1 n1 c1 a2 n2 c2 a3 n3 c3 a4 n4 c4 a5 n5 c5 a6' n6 c6' t0 b1 m1 d1 b2 m2 d2 b3 m3 d3 b4 m4 d4 b5 m5 d5 b6 m6 d6) hd 5 (by kernel_rfl))
                        exact one_move _ rfl (by first | exact Or.inl rfl | exact Or.inr rfl) ⟨_, rfl, Below.refl _ _, e⟩
                      · intro vs w' F hb hd hF hl hT
                        have eg := ((hF 39).trans (look_at _ 39 6 _ _ (by kernel_rfl) (by kernel_rfl) hl)).trans (dep_of (Fact := F_ry G m i j xb xo c s0 a1 n1 c1 a2 n2 c2 a3 n3 c3 a4 n4 c4 a5 n5 c5 a6' n6 c6' t0 b1 m1 d1 b2 m2 d2 b3 m3 d3 b4 m4 d4 b5 m5 d5 b6 m6 d6) hd 6 (by kernel_rfl))
                        refine wpList_on rfl (t := 39) (by kernel_rfl) eg ?_
                        have e := (hF 0).trans (look_out _ 0 _ _ (by kernel_rfl))
                        exact one_move _ rfl (by first | exact Or.inl rfl | exact Or.inr rfl) ⟨_, rfl, Below.refl _ _, e⟩
                      · intro vs w' F hb hd hF hl hT
                        have eg := ((hF 39).trans (look_at _ 39 6 _ _ (by kernel_rfl) (by kernel_rfl) hl)).trans (dep_of (Fact := F_ry G m i j xb xo c s0 a1 n1 c1 a2 n2 c2 a3 n3 c3 a4 n4 c4 a5 n5 c5 a6' n6 c6' t0 b1 m1 d1 b2 m2 d2 b3 m3 d3 b4 m4 d4 b5 m5 d5 b6 m6 d6) hd 6 (by kernel_rfl))
                        refine wpList_on rfl (t := 39) (by kernel_rfl) eg ?_
                        have e := (hF 9).trans (look_out _ 9 _ _ (by kernel_rfl))
                        exact one_move _ rfl (by first | exact Or.inl rfl | exact Or.inr rfl) ⟨_, rfl, Below.refl _ _, e⟩
                      · intro vs w' F hb hd hF hl hT
                        have eg := ((hF 39).trans (look_at _ 39 6 _ _ (by kernel_rfl) (by kernel_rfl) hl)).trans (dep_of (Fact := F_ry G m i j xb xo c s0 a1 n1 c1 a2 n2 c2 a3 n3 c3 a4 n4 c4 a5 n5 c5 a6' n6 c6' t0 b1 m1 d1 b2 m2 d2 b3 m3 d3 b4 m4 d4 b5 m5 d5 b6 m6 d6) hd 6 (by kernel_rfl))
                        refine wpList_on rfl (t := 39) (by kernel_rfl) eg ?_
                        have ex := (((hF 40).trans (look_at _ 40 7 _ _ (by kernel_rfl) (by kernel_rfl) hl)).trans (dep_of (Fact := F_ry G m i j xb xo c s0 a1 n1 c1 a2 n2 c2 a3 n3 c3 a4 n4 c4 a5 n5 c5 a6' n6 c6' t0 b1 m1 d1 b2 m2 d2 b3 m3 d3 b4 m4 d4 b5 m5 d5 b6 m6 d6) hd 7 (by kernel_rfl)))
                        have ey := (((hF 41).trans (look_at _ 41 8 _ _ (by kernel_rfl) (by kernel_rfl) hl)).trans (dep_of (Fact := F_ry G m i j xb xo c s0 a1 n1 c1 a2 n2 c2 a3 n3 c3 a4 n4 c4 a5 n5 c5 a6' n6 c6' t0 b1 m1 d1 b2 m2 d2 b3 m3 d3 b4 m4 d4 b5 m5 d5 b6 m6 d6) hd 8 (by kernel_rfl)))
                        exact one_index 22 _ _ rfl rfl (.slice (some ⟨xb, xo, none⟩) m c) (.int .i64 j) (.pointer (some ⟨xb, xo + j * 7, none⟩)) ex ey (fun w => idx_sys xb xo m c j (by omega) w) ⟨_, rfl, Below.refl _ _, rfl⟩
                      · intro vs w' F hb hd hF hl hT
                        have eg := ((hF 39).trans (look_at _ 39 6 _ _ (by kernel_rfl) (by kernel_rfl) hl)).trans (dep_of (Fact := F_ry G m i j xb xo c s0 a1 n1 c1 a2 n2 c2 a3 n3 c3 a4 n4 c4 a5 n5 c5 a6' n6 c6' t0 b1 m1 d1 b2 m2 d2 b3 m3 d3 b4 m4 d4 b5 m5 d5 b6 m6 d6) hd 6 (by kernel_rfl))
                        refine wpList_on rfl (t := 39) (by kernel_rfl) eg ?_
                        have e := (((hF 42).trans (look_at _ 42 9 _ _ (by kernel_rfl) (by kernel_rfl) hl)).trans (dep_of (Fact := F_ry G m i j xb xo c s0 a1 n1 c1 a2 n2 c2 a3 n3 c3 a4 n4 c4 a5 n5 c5 a6' n6 c6' t0 b1 m1 d1 b2 m2 d2 b3 m3 d3 b4 m4 d4 b5 m5 d5 b6 m6 d6) hd 9 (by kernel_rfl)))
                        exact one_load7 30 _ rfl rfl xb (xo + j * 7) _ _ _ _ _ _ _ e (C7j.out.below hb) _ Try.underlying30 rfl (by kernel_rfl) ⟨_, rfl, Below.refl _ _, rfl⟩
                      · intro vs w' F hb hd hF hl hT
                        have eg := ((hF 39).trans (look_at _ 39 6 _ _ (by kernel_rfl) (by kernel_rfl) hl)).trans (dep_of (Fact := F_ry G m i j xb xo c s0 a1 n1 c1 a2 n2 c2 a3 n3 c3 a4 n4 c4 a5 n5 c5 a6' n6 c6' t0 b1 m1 d1 b2 m2 d2 b3 m3 d3 b4 m4 d4 b5 m5 d5 b6 m6 d6) hd 6 (by kernel_rfl))
                        refine wpList_on rfl (t := 39) (by kernel_rfl) eg ?_
                        have e := (hF 0).trans (look_out _ 0 _ _ (by kernel_rfl))
                        exact one_move _ rfl (by first | exact Or.inl rfl | exact Or.inr rfl) ⟨_, rfl, Below.refl _ _, e⟩
                      · intro vs w' F hb hd hF hl hT
                        have eg := ((hF 39).trans (look_at _ 39 6 _ _ (by kernel_rfl) (by kernel_rfl) hl)).trans (dep_of (Fact := F_ry G m i j xb xo c s0 a1 n1 c1 a2 n2 c2 a3 n3 c3 a4 n4 c4 a5 n5 c5 a6' n6 c6' t0 b1 m1 d1 b2 m2 d2 b3 m3 d3 b4 m4 d4 b5 m5 d5 b6 m6 d6) hd 6 (by kernel_rfl))
                        refine wpList_on rfl (t := 39) (by kernel_rfl) eg ?_
                        have e := (hF 7).trans (look_out _ 7 _ _ (by kernel_rfl))
                        exact one_move _ rfl (by first | exact Or.inl rfl | exact Or.inr rfl) ⟨_, rfl, Below.refl _ _, e⟩
                      · intro vs w' F hb hd hF hl hT
                        have eg := ((hF 39).trans (look_at _ 39 6 _ _ (by kernel_rfl) (by kernel_rfl) hl)).trans (dep_of (Fact := F_ry G m i j xb xo c s0 a1 n1 c1 a2 n2 c2 a3 n3 c3 a4 n4 c4 a5 n5 c5 a6' n6 c6' t0 b1 m1 d1 b2 m2 d2 b3 m3 d3 b4 m4 d4 b5 m5 d5 b6 m6 d6) hd 6 (by kernel_rfl))
                        refine wpList_on rfl (t := 39) (by kernel_rfl) eg ?_
                        have ex := (((hF 44).trans (look_at _ 44 11 _ _ (by kernel_rfl) (by kernel_rfl) hl)).trans (dep_of (Fact := F_ry G m i j xb xo c s0 a1 n1 c1 a2 n2 c2 a3 n3 c3 a4 n4 c4 a5 n5 c5 a6' n6 c6' t0 b1 m1 d1 b2 m2 d2 b3 m3 d3 b4 m4 d4 b5 m5 d5 b6 m6 d6) hd 11 (by kernel_rfl)))
                        have ey := (((hF 45).trans (look_at _ 45 12 _ _ (by kernel_rfl) (by kernel_rfl) hl)).trans (dep_of (Fact := F_ry G m i j xb xo c s0 a1 n1 c1 a2 n2 c2 a3 n3 c3 a4 n4 c4 a5 n5 c5 a6' n6 c6' t0 b1 m1 d1 b2 m2 d2 b3 m3 d3 b4 m4 d4 b5 m5 d5 b6 m6 d6) hd 12 (by kernel_rfl)))
                        exact one_index 22 _ _ rfl rfl (.slice (some ⟨xb, xo, none⟩) m c) (.int .i64 i) (.pointer (some ⟨xb, xo + i * 7, none⟩)) ex ey (fun w => idx_sys xb xo m c i (by omega) w) ⟨_, rfl, Below.refl _ _, rfl⟩
                      · intro vs w' F hb hd hF hl hT
                        have eg := ((hF 39).trans (look_at _ 39 6 _ _ (by kernel_rfl) (by kernel_rfl) hl)).trans (dep_of (Fact := F_ry G m i j xb xo c s0 a1 n1 c1 a2 n2 c2 a3 n3 c3 a4 n4 c4 a5 n5 c5 a6' n6 c6' t0 b1 m1 d1 b2 m2 d2 b3 m3 d3 b4 m4 d4 b5 m5 d5 b6 m6 d6) hd 6 (by kernel_rfl))
                        refine wpList_on rfl (t := 39) (by kernel_rfl) eg ?_
                        have e := (((hF 46).trans (look_at _ 46 13 _ _ (by kernel_rfl) (by kernel_rfl) hl)).trans (dep_of (Fact := F_ry G m i j xb xo c s0 a1 n1 c1 a2 n2 c2 a3 n3 c3 a4 n4 c4 a5 n5 c5 a6' n6 c6' t0 b1 m1 d1 b2 m2 d2 b3 m3 d3 b4 m4 d4 b5 m5 d5 b6 m6 d6) hd 13 (by kernel_rfl)))
                        exact one_load7 30 _ rfl rfl xb (xo + i * 7) _ _ _ _ _ _ _ e (C7i.out.below hb) _ Try.underlying30 rfl (by kernel_rfl) ⟨_, rfl, Below.refl _ _, rfl⟩
                      · intro vs w' F hb hd hF hl hT
                        have eg := ((hF 39).trans (look_at _ 39 6 _ _ (by kernel_rfl) (by kernel_rfl) hl)).trans (dep_of (Fact := F_ry G m i j xb xo c s0 a1 n1 c1 a2 n2 c2 a3 n3 c3 a4 n4 c4 a5 n5 c5 a6' n6 c6' t0 b1 m1 d1 b2 m2 d2 b3 m3 d3 b4 m4 d4 b5 m5 d5 b6 m6 d6) hd 6 (by kernel_rfl))
                        refine wpList_on rfl (t := 39) (by kernel_rfl) eg ?_
                        refine one_call _ _ rfl rfl (enters_of Try.func12 (by kernel_rfl) rfl) #[.agg #[.string t0, .slice b1 m1 d1, .slice b2 m2 d2, .slice b3 m3 d3, .slice b4 m4 d4, .slice b5 m5 d5, .slice b6 m6 d6], .agg #[.string s0, .slice a1 n1 c1, .slice a2 n2 c2, .slice a3 n3 c3, .slice a4 n4 c4, .slice a5 n5 c5, .slice a6' n6 c6']] (eval2 (((hF 43).trans (look_at _ 43 10 _ _ (by kernel_rfl) (by kernel_rfl) hl)).trans (dep_of (Fact := F_ry G m i j xb xo c s0 a1 n1 c1 a2 n2 c2 a3 n3 c3 a4 n4 c4 a5 n5 c5 a6' n6 c6' t0 b1 m1 d1 b2 m2 d2 b3 m3 d3 b4 m4 d4 b5 m5 d5 b6 m6 d6) hd 10 (by kernel_rfl))) (((hF 47).trans (look_at _ 47 14 _ _ (by kernel_rfl) (by kernel_rfl) hl)).trans (dep_of (Fact := F_ry G m i j xb xo c s0 a1 n1 c1 a2 n2 c2 a3 n3 c3 a4 n4 c4 a5 n5 c5 a6' n6 c6' t0 b1 m1 d1 b2 m2 d2 b3 m3 d3 b4 m4 d4 b5 m5 d5 b6 m6 d6) hd 14 (by kernel_rfl)))) ?_
                        refine (CC.out w' (HYJ.out.below hb) (HYI.out.below hb)).mono ?_
                        rintro e2 w2 ⟨rfl, hb2⟩
                        exact ⟨_, rfl, _, rfl, hb2, rfl⟩
                      · intro vs w' F hb hd hF hl hT
                        have eg := ((hF 39).trans (look_at _ 39 6 _ _ (by kernel_rfl) (by kernel_rfl) hl)).trans (dep_of (Fact := F_ry G m i j xb xo c s0 a1 n1 c1 a2 n2 c2 a3 n3 c3 a4 n4 c4 a5 n5 c5 a6' n6 c6' t0 b1 m1 d1 b2 m2 d2 b3 m3 d3 b4 m4 d4 b5 m5 d5 b6 m6 d6) hd 6 (by kernel_rfl))
                        refine wpList_on rfl (t := 39) (by kernel_rfl) eg ?_
                        have e := ((hF 48).trans (look_at _ 48 15 _ _ (by kernel_rfl) (by kernel_rfl) hl)).trans (dep_of (Fact := F_ry G m i j xb xo c s0 a1 n1 c1 a2 n2 c2 a3 n3 c3 a4 n4 c4 a5 n5 c5 a6' n6 c6' t0 b1 m1 d1 b2 m2 d2 b3 m3 d3 b4 m4 d4 b5 m5 d5 b6 m6 d6) hd 15 (by kernel_rfl))
                        exact one_not _ _ rfl rfl _ true e rfl ⟨_, rfl, Below.refl _ _, rfl⟩
                      · intro vs w' F hb hd hF hl hT
                        have eg := ((hF 34).trans (look_at _ 34 1 _ _ (by kernel_rfl) (by kernel_rfl) hl)).trans (dep_of (Fact := F_ry G m i j xb xo c s0 a1 n1 c1 a2 n2 c2 a3 n3 c3 a4 n4 c4 a5 n5 c5 a6' n6 c6' t0 b1 m1 d1 b2 m2 d2 b3 m3 d3 b4 m4 d4 b5 m5 d5 b6 m6 d6) hd 1 (by kernel_rfl))
                        refine wpList_on rfl (t := 34) (by kernel_rfl) eg ?_
                        have ec := ((hF 39).trans (look_at _ 39 6 _ _ (by kernel_rfl) (by kernel_rfl) hl)).trans (dep_of (Fact := F_ry G m i j xb xo c s0 a1 n1 c1 a2 n2 c2 a3 n3 c3 a4 n4 c4 a5 n5 c5 a6' n6 c6' t0 b1 m1 d1 b2 m2 d2 b3 m3 d3 b4 m4 d4 b5 m5 d5 b6 m6 d6) hd 6 (by kernel_rfl))
                        have e := ((hF 49).trans (look_at _ 49 16 _ _ (by kernel_rfl) (by kernel_rfl) hl)).trans (dep_of (Fact := F_ry G m i j xb xo c s0 a1 n1 c1 a2 n2 c2 a3 n3 c3 a4 n4 c4 a5 n5 c5 a6' n6 c6' t0 b1 m1 d1 b2 m2 d2 b3 m3 d3 b4 m4 d4 b5 m5 d5 b6 m6 d6) hd 16 (by kernel_rfl))
                        exact one_pick_f _ _ _ rfl rfl _ ec e ⟨_, rfl, Below.refl _ _, rfl⟩
                      · intro vs w' F hb hd hF hl hT
                        have ec := ((hF 34).trans (look_at _ 34 1 _ _ (by kernel_rfl) (by kernel_rfl) hl)).trans (dep_of (Fact := F_ry G m i j xb xo c s0 a1 n1 c1 a2 n2 c2 a3 n3 c3 a4 n4 c4 a5 n5 c5 a6' n6 c6' t0 b1 m1 d1 b2 m2 d2 b3 m3 d3 b4 m4 d4 b5 m5 d5 b6 m6 d6) hd 1 (by kernel_rfl))
                        have e := ((hF 50).trans (look_at _ 50 17 _ _ (by kernel_rfl) (by kernel_rfl) hl)).trans (dep_of (Fact := F_ry G m i j xb xo c s0 a1 n1 c1 a2 n2 c2 a3 n3 c3 a4 n4 c4 a5 n5 c5 a6' n6 c6' t0 b1 m1 d1 b2 m2 d2 b3 m3 d3 b4 m4 d4 b5 m5 d5 b6 m6 d6) hd 17 (by kernel_rfl))
                        exact one_pick_t _ _ _ rfl rfl _ ec e ⟨_, rfl, Below.refl _ _, rfl⟩
                    · intro vs8 W8 hl hb hI
                      have hv : vs8.getD 18 undef = .bool true := hI 18 (by omega)
                      obtain ⟨x0, x1, x2, x3, x4, x5, x6, x7, x8, x9, x10, x11, x12, x13, x14, x15, x16, x17, x18, x19, hvs⟩ := list20 hl
                      subst hvs
                      replace hv : x18 = .bool true := hv
                      subst hv
                      have H1 := Lib.hid (own_below HOWN6.out hb)
                      have H2 := Lib.hid (own_below HOWN.out hb)
                      have H3 := Lib.hid (HROWS.out.below hb)
                      have H4 := Lib.hid (HRO.out.below hb)
                      have hBx3 : B2 ≤ W8.heap.size := Nat.le_trans hBx2 hb.size
                      have H5 : Below G w W8 := HB.out.trans (hb.mono (Nat.le_of_lt HRO.out.lt))
                      clear hI hl hb HOWN6 HOWN HROWS HRO HB E1 CC C7i C7j HYI HYJ
                      simp only [fillAll, Act.put, List.setIfInBounds_toArray, List.set_cons_succ, List.set_cons_zero]
                      go_wp2
                      go_roundg (i - (j + 1))
                      case measure => rw [K2.out]; omega
                      case rel => exact ⟨j + 1, hj, rfl, by rw [HFS.out]; rfl, by go_num, H1.out, H2.out, H3.out, H4.out, hBx3, H5⟩
            · have hft : freeB l m r i j = decide (depN l m i = r + 1) := by
                have e : j = i := by omega
                rw [e]; exact freeB_top l m r i hi
              have hsu : rowI l m r (i + 1) = if decide (depN l m i = r + 1) = true then rowI l m r i ++ [i] else rowI l m r i := by
                rw [rowI_succ]; by_cases q : depN l m i = r + 1
                · rw [if_pos q, if_pos (decide_eq_true q)]
                · rw [if_neg q, if_neg (by rw [decide_eq_true_eq]; exact q)]
              have hnl := rowI_len l m r i
              obtain ⟨fi, hfi⟩ : ∃ fi, fi = decide (depN l m i = r + 1) := ⟨_, rfl⟩
              rw [← hfi] at hft hsu
              have h6 := HOWN6.out
              obtain ⟨ro, hrow⟩ : ∃ ro, ro = rowI l m r i := ⟨_, rfl⟩
              rw [← hrow] at hsu hnl h6 ⊢
              obtain ⟨n6, hn6⟩ : ∃ n6, n6 = ro.length := ⟨_, rfl⟩
              rw [← hn6] at hnl h6 ⊢
              have HN6 := Lib.hid hn6
              have HSU := Lib.hid hsu
              have H6 := Lib.hid h6
              rw [hft]
              clear hft hsu hfi hrow hn6 HOWN6 h6
              cases fi with
              | true =>
                have HNX := Lib.hid (HSU.out.trans (if_pos rfl))
                have h6 := H6.out
                go_wp2_with (at_builtin; go_must (refine wpList_append_new rfl _ _ 26 rfl B2 3 (.int .i64 0) 1 8 Try.underlying26 (by kernel_rfl) rfl (by decide) _ _ _ rfl h6 _ _ rfl rfl rfl (by omega) (by decide) hBx2 ?_))
                intro g' cap' w' hown' hg' hor' hlt'
                have H1 := Lib.hid (HRO.out.grown hg' (fun h => by have := (own_lt h6 G h.symm).1; omega))
                have H2 := Lib.hid (own_grown HOWN.out hg' (fun g h => own_other HOWN.out h6 (by decide) g h))
                have H3 := Lib.hid (HROWS.out.apart hg' (fun g h => (own_lt h6 g h).1) HOLD.out)
                have H4 := Lib.hid (HB.out.grown hg' (Nat.le_of_lt HRO.out.lt) (fun r h => by have := (own_lt h6 r h).1; omega))
                have H5 := Lib.hid (show w'.ownsRow B2 3 1 (.slice (some ⟨g', 0, none⟩) (n6 + 1) cap') (n6 + 1) (vints .i64 (ints (ro ++ [i]))) by rw [ints_snoc, ← vints_snoc]; exact hown')
                have hBx3 := Nat.le_trans hBx2 hg'.size
                clear hown' hg' hor' hlt' h6 H6 HRO HOWN HROWS HB
                go_wp2
                go_roundg (m - (i + 1))
                case measure => rw [F2.out]; omega
                case rel => exact ⟨i + 1, _, hi, rfl, rfl, by go_num, by rw [HNX.out, List.length_append, List.length_singleton, ← HN6.out]; exact H5.out, H2.out, H3.out, H1.out, hBx3, H4.out⟩
              | false =>
                have HNX := Lib.hid (HSU.out.trans (if_neg (by decide)))
                go_wp2
                go_roundg (m - (i + 1))
                case measure => rw [F2.out]; omega
                case rel => exact ⟨i + 1, _, hi, rfl, rfl, by go_num, by rw [HNX.out, ← HN6.out]; exact H6.out, HOWN.out, HROWS.out, HRO.out, hBx2, HB.out⟩
        · have h6 := HOWN6.out
          have e : i = m := by omega
          rw [e, rowI_top] at h6 ⊢
          have hrw := rowR_lt l m r
          have hdz := doneK_zero l m r
          have hds := doneK_succ l m r
          have hdt := doneK_top l m r
          have hrs := roundsL_succ l m r
          have hnl := rowI_len l m r m
          rw [rowI_top] at hnl
          have hp1 : r + 1 - 1 = r := rfl
          obtain ⟨ro, hrow⟩ : ∃ ro, ro = rowR l m r := ⟨_, rfl⟩
          have HROW := Lib.hid hrow
          have hpos := HPOS.out
          have hst := HST.out
          rw [← hrow] at hrw hds hdt hrs hnl h6 hpos hst ⊢
          obtain ⟨n6, hn6⟩ : ∃ n6, n6 = ro.length := ⟨_, rfl⟩
          rw [← hn6] at hrw hds hdt hnl h6 hpos hst ⊢
          have HN6 := Lib.hid hn6
          have HRW := Lib.hid hrw
          have HDS := Lib.hid hds
          have HDT := Lib.hid hdt
          have HRS := Lib.hid hrs
          have HS := Lib.hid hst
          have H6 := Lib.hid h6
          have hro := HRO.out
          rw [← hdz] at hro
          have HRO := Lib.hid hro
          clear hrw hdz hds hdt hrs hrow hn6 h6 hro HOWN6 HST HPOS e hi f1 hp1 hst
          go_wp2_with fail
          go_loopg [11, 61] n6 (fun gk _ vi wx => ∃ k : Nat, k ≤ n6 ∧ gk = n6 - k ∧ vi = .int .i64 k ∧ wx.ownsRow B2 3 1 (.slice a6 n6 c6) n6 (vints .i64 (ints ro)) ∧ wx.ownsRow B 26 1 (.slice av r cv) r vs ∧ RowsI wx B vs (roundsL l m r) ∧ RowL wx G 4 (doneK l m r k) ∧ B2 ≤ wx.heap.size ∧ Below G w wx)
          case atStart => exact ⟨0, Nat.zero_le _, rfl, rfl, H6.out, HOWN.out, HROWS.out, HRO.out, hBx2, HB.out⟩
          case round =>
            clear H6 HOWN HROWS HRO HB hBx2
            obtain ⟨k, k1, k2, rfl, h6, hown, hrows, hro, hBx2, hb⟩ := hrel
            have K2 := Lib.hid k2
            have HOWN := Lib.hid hown
            have HROWS := Lib.hid hrows
            have HRO := Lib.hid hro
            have HB := Lib.hid hb
            clear k2 hown hrows hro hb
            by_cases hk : k < n6
            · have hq := HRW.out k hk
              have hds := HDS.out k hk
              obtain ⟨ga, ca, hform, hg1, hg2⟩ := h6.form (by omega)
              injection hform with hf1 hf2 hf3
              subst hf1 hf3
              have hcr := h6.cellAt k (by omega)
              rw [vints_get .i64 _ _ (by rw [ints_len, ← HN6.out]; exact hk), ints_getD] at hcr
              obtain ⟨q, hqe⟩ : ∃ q, q = ro.getD k 0 := ⟨_, rfl⟩
              rw [← hqe] at hq hds hcr
              have e1 := HRO.out.cell q (by rw [doneK_len]; exact hq)
              have e2 := HRO.out.frozen q
              have H1 := Lib.hid (show RowL (wr.setCell ⟨G, q, none⟩ (.bool true)) G 4 (doneK l m r (k + 1)) by rw [hds]; exact HRO.out.set q true)
              have H2 := Lib.hid (own_setLow HOWN.out (show Addr.block ⟨G, q, none⟩ < B from hGB) (.bool true))
              have H3 := Lib.hid (HROWS.out.setLow (show Addr.block ⟨G, q, none⟩ < B from hGB) (.bool true))
              have H4 := Lib.hid (below_set HB.out (Nat.le_refl G) q (.bool true))
              have H5 := Lib.hid (own_setLow h6 (show Addr.block ⟨G, q, none⟩ < B2 from hG2) (.bool true))
              have hBx3 : B2 ≤ (wr.setCell ⟨G, q, none⟩ (.bool true)).heap.size := by rw [World.size_setCell]; exact hBx2
              clear hqe hds h6 HOWN HROWS HRO HB
              go_wp2
              go_roundg (n6 - (k + 1))
              case measure => rw [K2.out]; omega
              case rel => exact ⟨k + 1, hk, rfl, by go_num, H5.out, H2.out, H3.out, H1.out, hBx3, H4.out⟩
            · have e : k = n6 := by omega
              have hro := HRO.out
              rw [e, HDT.out] at hro
              have HRO := Lib.hid hro
              have hown := HOWN.out
              clear hro e
              go_wp2_with (at_builtin; go_must (refine wpList_append_new rfl _ _ 23 rfl B 26 (.slice none 0 0) 1 24 Try.underlying23 (by kernel_rfl) rfl (by decide) _ _ _ rfl hown _ _ rfl rfl rfl (by omega) (by decide) (by omega) ?_))
              intro g' cap' w' hown' hg' hor' hlt'
              have H1 := Lib.hid (HRO.out.grown hg' (fun h => by have := (own_lt hown G h.symm).1; omega))
              have H2 := Lib.hid hown'
              have h6g := own_grown h6 hg' (fun g h => own_other h6 hown (by decide) g h)
              have h3 := HROWS.out.other hown (by decide) hg'
              have H3 := Lib.hid (h3.snoc (.slice a6 n6 c6) ro (by rw [← HN6.out]; exact h6g) hBB HOLD.out)
              have H4 := Lib.hid (HB.out.grown hg' (Nat.le_of_lt HRO.out.lt) (fun r h => by have := (own_lt hown r h).1; omega))
              have hBx3 := Nat.le_trans hBx2 hg'.size
              clear hown' hg' hor' hlt' h6 h6g h3 hown HROWS HB HRO HOWN
              obtain ⟨l2, hl2⟩ : ∃ l2, l2 = leftR l m (r + 1) := ⟨_, rfl⟩
              have hS := HS.out
              rw [← hl2] at hS
              have HL2 := Lib.hid hl2
              clear hl2
              go_wp2
              go_roundg l2
              case measure => rw [G2.out, ← HLF.out]; omega
              case rel => exact ⟨r + 1, _, _, HL2.out, rfl, by rw [← HL2.out], Or.inr (by rw [Nat.add_sub_cancel, ← HROW.out, ← HN6.out]; exact hpos), by omega, H2.out, by rw [HRS.out]; exact H3.out, H1.out, by omega, H4.out⟩
    · have h0 : leftR l m r = 0 := by omega
      have hd := rounds_done l m r h0 HRP.out
      have hrl : (roundsL l m r).length = r := by unfold roundsL; simp
      obtain ⟨a2, c2, hv, hsl⟩ := HROWS.out.lies HOWN.out hrl.symm
      injection hv with h1 h2 h3
      subst h1 h3
      rw [h0]
      rw [hd] at hsl hrl
      have HSL := Lib.hid hsl
      have HRL := Lib.hid hrl
      clear hd hsl hrl h0 hl
      go_wp2
      go_ret
      exact ⟨⟨av, cv, by rw [HRL.out]; rfl, HSL.out⟩, by rw [← HG.out]; exact HB.out⟩
end Go.Proofs.Ytembjokbhbdoeaa
