/- Lemmas for the law TopBorderText: NatP, NatW, Most, Through, MulDiv. No conditions. -/
import Derived.WalkKit
import Derived.Test.YtfckbkhnelgjbaaM26
import Derived.Test.YtfckbkhnelgjbaaM01
import Derived.Deep.DeepMust
import Derived.Shelf.Abstract
import Derived.Deep.RegionHeld3
import Derived.StillTailTactics
import Derived.Test.YtfckbkhnelgjbaaM04
import Derived.Test.YtfckbkhnelgjbaaM29
/- Natural numbers as lists of digits in base 32768, the least one first: plain lemmas. No program is named here. -/
section
namespace Go.Nb

/-- The number of some digits. -/
def nval : List Int → Int
  | [] => 0
  | d :: r => d + 32768 * nval r
def Digs (l : List Int) : Prop := ∀ d ∈ l, 0 ≤ d ∧ d < 32768
def pw (k : Nat) : Int := ((32768 ^ k : Nat) : Int)
theorem pw_zero : pw 0 = 1 := rfl
theorem pw_succ (k : Nat) : pw (k + 1) = 32768 * pw k := by unfold pw; rw [Nat.pow_succ, Int.natCast_mul, Int.mul_comm]; rfl
theorem pw_pos (k : Nat) : 1 ≤ pw k := by
  have : 0 < 32768 ^ k := Nat.pow_pos (by omega)
  unfold pw; omega
theorem pw_add (a b : Nat) : pw (a + b) = pw a * pw b := by unfold pw; rw [Nat.pow_add, Int.natCast_mul]
theorem pw_le {a b : Nat} (h : a ≤ b) : pw a ≤ pw b := by
  have := Nat.pow_le_pow_right (n := 32768) (by omega) h
  unfold pw; omega

theorem Digs.nil : Digs [] := fun _ h => by cases h
theorem Digs.cons {d : Int} {l : List Int} (h : Digs (d :: l)) : (0 ≤ d ∧ d < 32768) ∧ Digs l := ⟨h d (by simp), fun x hx => h x (by simp [hx])⟩
theorem nval_bd : ∀ {l : List Int}, Digs l → 0 ≤ nval l ∧ nval l < pw l.length
  | [], _ => by simp [nval, pw]
  | d :: r, h => by
    obtain ⟨h1, h2⟩ := h.cons
    have := nval_bd h2
    simp only [nval, List.length_cons, pw_succ]; omega
theorem nval_append (a b : List Int) : nval (a ++ b) = nval a + pw a.length * nval b := by
  induction a with
  | nil => simp [nval, pw]
  | cons d r ih =>
    simp only [List.cons_append, nval, ih, List.length_cons, pw_succ, Int.mul_add, Int.mul_assoc]; omega
theorem nval_snoc (a : List Int) (d : Int) : nval (a ++ [d]) = nval a + pw a.length * d := by
  rw [nval_append]; simp [nval]
theorem Digs.append {a b : List Int} (ha : Digs a) (hb : Digs b) : Digs (a ++ b) := fun d h => by
  rcases List.mem_append.1 h with h | h
  · exact ha d h
  · exact hb d h
theorem Digs.one {d : Int} (h : 0 ≤ d ∧ d < 32768) : Digs [d] := fun x hx => by simp at hx; subst hx; exact h
theorem Digs.getD {l : List Int} (h : Digs l) (j : Nat) : 0 ≤ l.getD j 0 ∧ l.getD j 0 < 32768 := by
  by_cases hj : j < l.length
  · rw [List.getD_eq_getElem?_getD, List.getElem?_eq_getElem hj]; exact h _ (List.getElem_mem hj)
  · rw [List.getD_eq_getElem?_getD, List.getElem?_eq_none (by omega)]; simp
theorem Digs.set {l : List Int} (h : Digs l) (j : Nat) {v : Int} (hv : 0 ≤ v ∧ v < 32768) : Digs (l.set j v) := fun d hd => by
  rcases List.mem_or_eq_of_mem_set hd with h' | h'
  · exact h d h'
  · subst h'; exact hv
theorem Digs.take {l : List Int} (h : Digs l) (m : Nat) : Digs (l.take m) := fun d hd => h d (List.mem_of_mem_take hd)
theorem Digs.replicate (n : Nat) : Digs (List.replicate n 0) := fun d hd => by
  have := List.eq_of_mem_replicate hd; omega
theorem nval_replicate (n : Nat) : nval (List.replicate n 0) = 0 := by
  induction n with
  | zero => rfl
  | succ n ih => simp [List.replicate_succ, nval, ih]
theorem nval_set : ∀ (l : List Int) (j : Nat) (v : Int), j < l.length → nval (l.set j v) = nval l + (v - l.getD j 0) * pw j
  | d :: r, 0, v, _ => by simp [nval, pw]; omega
  | d :: r, j + 1, v, h => by
    have ih := nval_set r j v (by simpa using h)
    simp only [List.set_cons_succ, nval, ih, pw_succ, List.getD_cons_succ, Int.mul_add, Int.mul_left_comm]; omega
theorem nval_take_succ (l : List Int) (k : Nat) (h : k < l.length) : nval (l.take (k + 1)) = nval (l.take k) + pw k * l.getD k 0 := by
  rw [List.take_succ_eq_append_getElem h, nval_snoc, List.length_take, Nat.min_eq_left (by omega), List.getD_eq_getElem?_getD, List.getElem?_eq_getElem h]; rfl

/-- No zero at the end. -/
def Norm (l : List Int) : Prop := l = [] ∨ l.getD (l.length - 1) 0 ≠ 0
/-- Zeros at the end say nothing. -/
theorem nval_take_zeros (l : List Int) (m : Nat) (h : ∀ j, m ≤ j → l.getD j 0 = 0) : nval (l.take m) = nval l := by
  induction l generalizing m with
  | nil => simp
  | cons d r ih =>
    cases m with
    | zero =>
      have h0 := h 0 (by omega)
      simp at h0
      have := ih 0 (fun j hj => by have := h (j + 1) (by omega); simpa using this)
      simp [nval] at this
      simp [nval, h0, ← this]
    | succ m =>
      have := ih m (fun j hj => by have := h (j + 1) (by omega); simpa using this)
      simp [nval, this]
theorem norm_take {l : List Int} {m : Nat} (hm : m ≤ l.length) (h : m = 0 ∨ l.getD (m - 1) 0 ≠ 0) : Norm (l.take m) := by
  rcases h with h | h
  · left; subst h; rfl
  · rcases Nat.eq_zero_or_pos m with h0 | h0
    · left; subst h0; rfl
    · right
      rw [List.length_take, Nat.min_eq_left hm, List.getD_eq_getElem?_getD, List.getElem?_take, if_pos (by omega), ← List.getD_eq_getElem?_getD]
      exact h
theorem getD_take (l : List Int) (m j : Nat) (h : j < m) : (l.take m).getD j 0 = l.getD j 0 := by
  rw [List.getD_eq_getElem?_getD, List.getElem?_take, if_pos h, ← List.getD_eq_getElem?_getD]
theorem nval_split (l : List Int) (k : Nat) (h : k ≤ l.length) : nval l = nval (l.take k) + pw k * nval (l.drop k) := by
  conv => lhs; rw [← List.take_append_drop k l]
  rw [nval_append, List.length_take, Nat.min_eq_left h]
theorem Digs.drop {l : List Int} (h : Digs l) (m : Nat) : Digs (l.drop m) := fun d hd => h d (List.mem_of_mem_drop hd)
/-- A number without a zero at the end is at least the power of its length. -/
theorem nval_ge {l : List Int} (hd : Digs l) (hn : Norm l) (hl : l ≠ []) : pw (l.length - 1) ≤ nval l := by
  have hpos : 0 < l.length := List.length_pos_iff.2 hl
  have hn' : l.getD (l.length - 1) 0 ≠ 0 := by rcases hn with h | h; exact absurd h hl; exact h
  have hb := (hd.getD (l.length - 1)).1
  have e := nval_take_succ l (l.length - 1) (by omega)
  rw [show l.length - 1 + 1 = l.length by omega, List.take_length] at e
  have ht := (nval_bd (hd.take (l.length - 1))).1
  have hp := pw_pos (l.length - 1)
  have : pw (l.length - 1) * 1 ≤ pw (l.length - 1) * l.getD (l.length - 1) 0 := Int.mul_le_mul_of_nonneg_left (by omega) (by omega)
  omega
theorem nval_length_le {l : List Int} (hd : Digs l) (hn : Norm l) (k : Nat) (h : nval l < pw k) : l.length ≤ k := by
  by_cases hl : l = []
  · subst hl; simp
  · have := nval_ge hd hn hl
    rcases Nat.lt_or_ge k l.length with hk | hk
    · have := pw_le (show k ≤ l.length - 1 by omega); omega
    · exact hk
theorem nval_lt_of_length {a b : List Int} (ha : Digs a) (hb : Digs b) (nb : Norm b) (h : a.length < b.length) : nval a < nval b := by
  have h1 := (nval_bd ha).2
  have h2 := nval_ge hb nb (by intro e; subst e; simp at h)
  have := pw_le (show a.length ≤ b.length - 1 by omega)
  omega
/-- The first digit from the end that differs decides. -/
theorem nval_lt_of_digit {a b : List Int} (ha : Digs a) (hb : Digs b) (hlen : a.length = b.length) (i : Nat) (hi : i < a.length) (heq : ∀ j, i < j → j < a.length → a.getD j 0 = b.getD j 0) (h : a.getD i 0 < b.getD i 0) : nval a < nval b := by
  have e : a.drop (i + 1) = b.drop (i + 1) := by
    apply List.ext_getElem?
    intro j
    rw [List.getElem?_drop, List.getElem?_drop]
    by_cases hj : i + 1 + j < a.length
    · have := heq (i + 1 + j) (by omega) hj
      rw [List.getD_eq_getElem?_getD, List.getD_eq_getElem?_getD, List.getElem?_eq_getElem hj, List.getElem?_eq_getElem (by omega : i + 1 + j < b.length)] at this
      rw [List.getElem?_eq_getElem hj, List.getElem?_eq_getElem (by omega : i + 1 + j < b.length)]
      simpa using this
    · rw [List.getElem?_eq_none (by omega), List.getElem?_eq_none (by omega)]
  rw [nval_split a (i + 1) (by omega), nval_split b (i + 1) (by omega), e, nval_take_succ a i hi, nval_take_succ b i (by omega)]
  have h1 := (nval_bd (ha.take i)).2
  have h2 := (nval_bd (hb.take i)).1
  rw [List.length_take, Nat.min_eq_left (by omega)] at h1
  have hp := pw_pos i
  have : pw i * (a.getD i 0 + 1) ≤ pw i * b.getD i 0 := Int.mul_le_mul_of_nonneg_left (by omega) (by omega)
  rw [Int.mul_add] at this
  omega
theorem nval_eq_of_digits {a b : List Int} (hlen : a.length = b.length) (heq : ∀ j, j < a.length → a.getD j 0 = b.getD j 0) : nval a = nval b := by
  have : a = b := by
    apply List.ext_getElem hlen
    intro j h1 h2
    have := heq j h1
    rwa [List.getD_eq_getElem?_getD, List.getD_eq_getElem?_getD, List.getElem?_eq_getElem h1, List.getElem?_eq_getElem h2] at this
  rw [this]
end Go.Nb
end
/- The reference's natural numbers: what natOf, cut, times, plus and atMost compute. -/
section
namespace Go.Proofs.Ytfckbkhnelgjbaa
open Go.ChangeShapes Go.WideShapes Go.ChangeAt Go.RowKit Go.Mem Go.Nb

/-- The slice of length 'zs.length' at ao has the numbers zs. -/
def RowZ (w : World) (ao : Option Addr) (zs : List Int) : Prop :=
  zs = [] ∨ ∃ g, ao = some ⟨g, 0, none⟩ ∧ g < w.heap.size ∧ ∀ j, j < zs.length → w.cell? ⟨g, j, none⟩ = some (.int .i64 (zs.getD j 0))
theorem RowZ.mono {w w' : World} {ao : Option Addr} {zs : List Int} (h : RowZ w ao zs) (hb : Below w.heap.size w w') : RowZ w' ao zs := by
  rcases h with h | ⟨g, h1, h2, h3⟩
  · exact Or.inl h
  · exact Or.inr ⟨g, h1, Nat.lt_of_lt_of_le h2 hb.size, fun j hj => (hb.cell h2).trans (h3 j hj)⟩
theorem RowZ.take {w : World} {ao : Option Addr} {zs : List Int} (h : RowZ w ao zs) (m : Nat) : RowZ w ao (zs.take m) := by
  rcases h with h | ⟨g, h1, h2, h3⟩
  · subst h; exact Or.inl (by simp)
  · refine Or.inr ⟨g, h1, h2, fun j hj => ?_⟩
    rw [List.length_take] at hj
    rw [getD_take _ _ _ (by omega)]; exact h3 j (by omega)
/-- The slice is the natural number n. -/
def NatS (w : World) (ao : Option Addr) (len : Nat) (n : Int) : Prop := ∃ zs : List Int, zs.length = len ∧ nval zs = n ∧ Digs zs ∧ Norm zs ∧ RowZ w ao zs
theorem NatS.mono {w w' : World} {ao : Option Addr} {len : Nat} {n : Int} (h : NatS w ao len n) (hb : Below w.heap.size w w') : NatS w' ao len n := by
  obtain ⟨zs, h1, h2, h3, h4, h5⟩ := h
  exact ⟨zs, h1, h2, h3, h4, h5.mono hb⟩
theorem NatS.nonneg {w : World} {ao : Option Addr} {len : Nat} {n : Int} (h : NatS w ao len n) : 0 ≤ n := by
  obtain ⟨zs, _, h2, h3, _, _⟩ := h
  rw [← h2]; exact (nval_bd h3).1
theorem NatS.len_le {w : World} {ao : Option Addr} {len : Nat} {n : Int} (h : NatS w ao len n) (k : Nat) (hk : n < pw k) : len ≤ k := by
  obtain ⟨zs, h1, h2, h3, h4, _⟩ := h
  rw [← h1]; exact nval_length_le h3 h4 k (by omega)

def ints (zs : List Int) : List Value := zs.map (.int .i64)
theorem ints_snoc (zs : List Int) (d : Int) : ints zs ++ #[Value.int .i64 d].toList = ints (zs ++ [d]) := by simp [ints]
theorem ints_length (zs : List Int) : (ints zs).length = zs.length := by simp [ints]
theorem own_RowZ {w : World} {base e g n cap : Nat} {zs : List Int} (h : w.ownsRow base e 1 (.slice (some ⟨g, 0, none⟩) n cap) n (ints zs)) (hn : n = zs.length) : RowZ w (some ⟨g, 0, none⟩) zs := by
  refine Or.inr ⟨g, rfl, (h.lt g rfl).2, fun j hj => ?_⟩
  rw [h.cellAt j (by omega)]
  simp [ints, List.getD_eq_getElem?_getD, List.getElem?_eq_getElem hj]

theorem natOf_step (zs : List Int) (m : Int) (c : 0 < m) (hd : Digs zs) (hpw : pw zs.length * max m 0 ≤ 9223372036854775807) :
    zs.length ≤ 4 ∧ nval (zs ++ [m % 32768]) + pw (zs ++ [m % 32768]).length * max (m / 32768) 0 = nval zs + pw zs.length * max m 0 ∧ Digs (zs ++ [m % 32768]) ∧ (m / 32768 = 0 → Norm (zs ++ [m % 32768])) ∧ pw (zs ++ [m % 32768]).length * max (m / 32768) 0 ≤ 9223372036854775807 := by
  have hm : max m 0 = m := by omega
  have hm2 : max (m / 32768) 0 = m / 32768 := by omega
  rw [hm] at hpw ⊢
  rw [hm2]
  have hp := pw_pos zs.length
  have h1 : pw zs.length * 1 ≤ pw zs.length * m := Int.mul_le_mul_of_nonneg_left (by omega) (by omega)
  have e : pw zs.length * m = pw zs.length * (32768 * (m / 32768)) + pw zs.length * (m % 32768) := by rw [← Int.mul_add]; congr 1; omega
  have e2 : pw (zs.length + 1) * (m / 32768) = pw zs.length * (32768 * (m / 32768)) := by rw [pw_succ, Int.mul_comm 32768, Int.mul_assoc]
  have e3 : 0 ≤ pw zs.length * (m % 32768) := Int.mul_nonneg (by omega) (by omega)
  refine ⟨?_, ?_, hd.append (Digs.one (by omega)), ?_, ?_⟩
  · rcases Nat.lt_or_ge 4 zs.length with h | h
    · have := pw_le (show 5 ≤ zs.length by omega)
      have h5 : pw 5 = 37778931862957161709568 := by decide +kernel
      omega
    · exact h
  · rw [nval_snoc, List.length_append, List.length_singleton, e2, e]; omega
  · intro h
    right
    simp [List.getD_eq_getElem?_getD]
    omega
  · rw [List.length_append, List.length_singleton, e2]; omega

theorem RowZ.at {w : World} {ao : Option Addr} {zs : List Int} (h : RowZ w ao zs) (hl : 0 < zs.length) : ∃ g, ao = some ⟨g, 0, none⟩ ∧ g < w.heap.size ∧ ∀ j, j < zs.length → w.cell? ⟨g, j, none⟩ = some (.int .i64 (zs.getD j 0)) := by
  rcases h with h | h
  · subst h; simp at hl
  · exact h

/-- One step of the inner loop, on the numbers. -/
theorem times_step (out : List Int) (j : Nat) (x y carry V : Int) (hj : j < out.length) (ho : Digs out) (hx : 0 ≤ x ∧ x < 32768) (hy : 0 ≤ y ∧ y < 32768) (hc : 0 ≤ carry ∧ carry < 32768)
    (hV : nval out + carry * pw j = V) (m : Int) (hm : m = out.getD j 0 + x * y + carry) :
    0 ≤ m ∧ m < 1073741824 ∧ nval (out.set j (m % 32768)) + (m / 32768) * pw (j + 1) = V + x * y * pw j ∧ Digs (out.set j (m % 32768)) ∧ 0 ≤ m / 32768 ∧ m / 32768 < 32768 := by
  have h1 := ho.getD j
  have p1 : 0 ≤ x * y := Int.mul_nonneg hx.1 hy.1
  have p2 : x * y ≤ 32767 * 32767 := Int.mul_le_mul (by omega) (by omega) hy.1 (by omega)
  refine ⟨by omega, by omega, ?_, ho.set j (by omega), by omega, by omega⟩
  rw [nval_set out j _ hj, pw_succ]
  have e : m / 32768 * (32768 * pw j) = (32768 * (m / 32768)) * pw j := by rw [← Int.mul_assoc, Int.mul_comm (m / 32768)]
  rw [e, ← hV]
  have e2 : (m % 32768 - out.getD j 0) * pw j + 32768 * (m / 32768) * pw j = (m - out.getD j 0) * pw j := by rw [← Int.add_mul]; congr 1; omega
  have e3 : (m - out.getD j 0) * pw j = x * y * pw j + carry * pw j := by rw [← Int.add_mul]; congr 1; omega
  omega

theorem ints_set (zs : List Int) (j : Nat) (v : Int) : (ints zs).set j (.int .i64 v) = ints (zs.set j v) := by simp [ints, List.map_set]
theorem ints_replicate (n : Nat) : List.replicate n (Value.int .i64 0) = ints (List.replicate n 0) := by simp [ints]
theorem ints_get (zs : List Int) (j : Nat) (h : j < zs.length) : (ints zs)[j]? = some (.int .i64 (zs.getD j 0)) := by
  simp [ints, List.getD_eq_getElem?_getD, List.getElem?_eq_getElem h]

end Go.Proofs.Ytfckbkhnelgjbaa
end
/- The reference's 'most': the greatest number up to a limit for which something holds. -/
section
namespace Go.Proofs.Ytfckbkhnelgjbaa
open Go.ChangeShapes Go.WideShapes Go.ChangeAt Go.RowKit Go.Mem

end Go.Proofs.Ytfckbkhnelgjbaa
end
/- The reference's Through: a times b through c, rounded. -/
section
namespace Go.Proofs.Ytfckbkhnelgjbaa
open Go.ChangeShapes Go.WideShapes Go.ChangeAt Go.RowKit Go.Mem Go.Nb
set_option linter.unusedVariables false

theorem pw6 : pw 6 = 1237940039285380274899124224 := by decide +kernel
theorem nat_len {w : World} {ao : Option Addr} {len : Nat} {n : Int} (h : NatS w ao len n) (hn : n < 1237940039285380274899124224) : len ≤ 6 := h.len_le 6 (by rw [pw6]; exact hn)

/-- What the closures capture: a variable with a natural number. -/
def VarN (w : World) (B : Nat) (n : Int) : Prop := ∃ ao len cap, w.cell? ⟨B, 0, none⟩ = some (.slice ao len cap) ∧ len ≤ cap ∧ NatS w ao len n
theorem VarN.mono {w w' : World} {B : Nat} {n : Int} (h : VarN w B n) (hb : Below w.heap.size w w') : VarN w' B n := by
  obtain ⟨ao, len, cap, h1, h2, h3⟩ := h
  exact ⟨ao, len, cap, (hb.cell (World.block_lt_of_cell? w _ h1)).trans h1, h2, h3.mono hb⟩

theorem held3 {a b c : Prop} (h : a ∧ b ∧ c) : c := h.2.2
theorem keep2 {w w1 w2 : World} {B C : Nat} {u v : Value} (h : w1.cell? ⟨B, 0, none⟩ = some u ∧ w1.cell? ⟨C, 0, none⟩ = some v ∧ Below w.heap.size w w1) (hb : Below w1.heap.size w1 w2) :
    w2.cell? ⟨B, 0, none⟩ = some u ∧ w2.cell? ⟨C, 0, none⟩ = some v ∧ Below w.heap.size w w2 :=
  ⟨(hb.cell (World.block_lt_of_cell? w1 _ h.1)).trans h.1, (hb.cell (World.block_lt_of_cell? w1 _ h.2.1)).trans h.2.1, bt h.2.2 hb⟩

/-- The three variables in the reference's Through. -/
def Vars3 (w : World) (B : Nat) (x y z : Int) : Prop := w.heap[B]? = some (.cells #[.int .i64 x] 3 (0, 0)) ∧ w.heap[B + 1]? = some (.cells #[.int .i64 y] 3 (0, 0)) ∧ w.heap[B + 1 + 1]? = some (.cells #[.int .i64 z] 3 (0, 0))

theorem Vars3.alloc {w : World} {B : Nat} {x y z : Int} (h : Vars3 w B x y z) (o : Obj) : Vars3 (w.alloc o) B x y z := by
  obtain ⟨h1, h2, h3⟩ := h
  have l1 := (Array.getElem?_eq_some_iff.1 h1).1
  have l2 := (Array.getElem?_eq_some_iff.1 h2).1
  have l3 := (Array.getElem?_eq_some_iff.1 h3).1
  exact ⟨(Below.heap_alloc _ _ _ l1).trans h1, (Below.heap_alloc _ _ _ l2).trans h2, (Below.heap_alloc _ _ _ l3).trans h3⟩
theorem Vars3.put1 {w w2 : World} {B : Nat} {x y z v : Int} (h : Vars3 w B x y z) (p : Put w w2 B 3 (.int .i64 v)) : Vars3 w2 B v y z := ⟨p.here, (p.else_ _ (by omega)).trans h.2.1, (p.else_ _ (by omega)).trans h.2.2⟩
theorem Vars3.put2 {w w2 : World} {B : Nat} {x y z v : Int} (h : Vars3 w B x y z) (p : Put w w2 (B + 1) 3 (.int .i64 v)) : Vars3 w2 B x v z := ⟨(p.else_ _ (by omega)).trans h.1, p.here, (p.else_ _ (by omega)).trans h.2.2⟩
theorem Vars3.put3 {w w2 : World} {B : Nat} {x y z v : Int} (h : Vars3 w B x y z) (p : Put w w2 (B + 1 + 1) 3 (.int .i64 v)) : Vars3 w2 B x y v := ⟨(p.else_ _ (by omega)).trans h.1, (p.else_ _ (by omega)).trans h.2.1, p.here⟩
theorem Vars3.c1 {w : World} {B : Nat} {x y z : Int} (h : Vars3 w B x y z) : w.cell? ⟨B, 0, none⟩ = some (.int .i64 x) := cell_of_row w _ _ _ _ _ h.1
theorem Vars3.c2 {w : World} {B : Nat} {x y z : Int} (h : Vars3 w B x y z) : w.cell? ⟨B + 1, 0, none⟩ = some (.int .i64 y) := cell_of_row w _ _ _ _ _ h.2.1
theorem Vars3.c3 {w : World} {B : Nat} {x y z : Int} (h : Vars3 w B x y z) : w.cell? ⟨B + 1 + 1, 0, none⟩ = some (.int .i64 z) := cell_of_row w _ _ _ _ _ h.2.2
theorem Vars3.f1 {w : World} {B : Nat} {x y z : Int} (h : Vars3 w B x y z) : w.frozen? ⟨B, 0, none⟩ = false := frozen_of_row w _ _ _ _ h.1
theorem Vars3.f2 {w : World} {B : Nat} {x y z : Int} (h : Vars3 w B x y z) : w.frozen? ⟨B + 1, 0, none⟩ = false := frozen_of_row w _ _ _ _ h.2.1
theorem Vars3.f3 {w : World} {B : Nat} {x y z : Int} (h : Vars3 w B x y z) : w.frozen? ⟨B + 1 + 1, 0, none⟩ = false := frozen_of_row w _ _ _ _ h.2.2

theorem vars3_new (w : World) (a b c : Int) : Vars3 (((w.alloc (.cells #[.int .i64 a] 3)).alloc (.cells #[.int .i64 b] 3)).alloc (.cells #[.int .i64 c] 3)) w.heap.size a b c := by
  refine ⟨?_, ?_, ?_⟩
  · rw [Below.heap_alloc _ _ _ (by simp; omega), Below.heap_alloc _ _ _ (by simp)]; exact heap_alloc_new _ _
  · rw [Below.heap_alloc _ _ _ (by simp)]; exact heap_alloc2_new _ _ _
  · have := heap_alloc_new ((w.alloc (.cells #[.int .i64 a] 3)).alloc (.cells #[.int .i64 b] 3)) (.cells #[.int .i64 c] 3)
    simpa using this
theorem three_new (w : World) (a b c : Obj) : Below w.heap.size w (((w.alloc a).alloc b).alloc c) := (((Below.refl _ _).alloc (Nat.le_refl _) _).alloc (by simp) _).alloc (by simp; omega) _

/-- After k rounds of the loop over the signs. -/
def absAt (k j : Nat) (A : Int) : Int := if k < j then A else A.natAbs
def negAt (k : Nat) (A B C : Int) : Bool := xor (if k < 1 then false else decide (A < 0)) (xor (if k < 2 then false else decide (B < 0)) (if k < 3 then false else decide (C < 0)))

/-- The value that both compute, of numbers within the limits, the last one not 0: the quotient, rounded half up. -/
def rnd (P C : Int) : Int := if 0 < C then (2 * P + C) / (2 * C) else (-(2 * P) - C) / (-(2 * C))
def thr (a b c : Int) : Int := if lim c = 0 then 0 else lim (rnd (lim a * lim b) (lim c))

theorem rnd_pos (N D r : Int) (hN : 0 ≤ N) (hD : 0 < D) (r0 : 0 ≤ r) (r1 : r ≤ 1099511627776) (h1 : r = 0 ∨ max (2 * r - 1) 0 * D ≤ 2 * N) (h2 : 1099511627776 < r + 1 ∨ ¬ max (2 * (r + 1) - 1) 0 * D ≤ 2 * N) : lim ((2 * N + D) / (2 * D)) = r := by
  have a1 : r ≤ (2 * N + D) / (2 * D) := by
    rw [Int.le_ediv_iff_mul_le (by omega)]
    rcases h1 with h1 | h1
    · subst h1; omega
    · by_cases e : r = 0
      · subst e; omega
      · rw [show max (2 * r - 1) 0 = 2 * r - 1 by omega, Int.sub_mul] at h1
        have : r * (2 * D) = 2 * r * D := by rw [Int.mul_comm 2 r, Int.mul_assoc]
        omega
  unfold lim
  rcases h2 with h2 | h2
  · repeat' split
    all_goals omega
  · have a2 : (2 * N + D) / (2 * D) < r + 1 := by
      rw [Int.ediv_lt_iff_lt_mul (by omega)]
      rw [show max (2 * (r + 1) - 1) 0 = 2 * (r + 1) - 1 by omega, Int.sub_mul] at h2
      have : (r + 1) * (2 * D) = 2 * (r + 1) * D := by rw [Int.mul_comm 2 (r + 1), Int.mul_assoc]
      omega
    repeat' split
    all_goals omega
theorem rnd_neg (N D r : Int) (hN : 0 ≤ N) (hD : 0 < D) (r0 : 0 ≤ r) (r1 : r ≤ 1099511627776) (h1 : r = 0 ∨ max (2 * r - 1) 0 * D < 2 * N) (h2 : 1099511627776 < r + 1 ∨ ¬ max (2 * (r + 1) - 1) 0 * D < 2 * N) : lim ((-(2 * N) + D) / (2 * D)) = -r := by
  have a1 : (-(2 * N) + D) / (2 * D) ≤ -r := by
    have : (-(2 * N) + D) / (2 * D) < -r + 1 := by
      rw [Int.ediv_lt_iff_lt_mul (by omega)]
      rcases h1 with h1 | h1
      · subst h1; omega
      · by_cases e : r = 0
        · subst e; omega
        · rw [show max (2 * r - 1) 0 = 2 * r - 1 by omega, Int.sub_mul] at h1
          have : (-r + 1) * (2 * D) = -(2 * r * D) + 2 * D := by rw [Int.add_mul, Int.neg_mul, Int.mul_comm 2 r, Int.mul_assoc, Int.one_mul]
          omega
    omega
  unfold lim
  rcases h2 with h2 | h2
  · repeat' split
    all_goals omega
  · have a2 : -r ≤ (-(2 * N) + D) / (2 * D) := by
      rw [Int.le_ediv_iff_mul_le (by omega)]
      rw [show max (2 * (r + 1) - 1) 0 = 2 * (r + 1) - 1 by omega, Int.sub_mul] at h2
      have : (-r) * (2 * D) = -(2 * (r + 1) * D) + 2 * D := by
        have : 2 * (r + 1) * D = 2 * r * D + 2 * D := by rw [Int.mul_add, Int.add_mul, Int.mul_one]
        rw [this, Int.neg_mul, Int.mul_comm 2 r, Int.mul_assoc]; omega
      omega
    repeat' split
    all_goals omega
set_option linter.unusedSimpArgs false in
theorem prod_abs (A B : Int) : (A * B = A.natAbs * B.natAbs ∧ (decide (A < 0) = decide (B < 0))) ∨ (A * B = -(A.natAbs * B.natAbs) ∧ decide (A < 0) = !decide (B < 0)) := by
  by_cases a : A < 0 <;> by_cases b : B < 0
  · left
    rw [show (A.natAbs : Int) = -A by omega, show (B.natAbs : Int) = -B by omega]; simp [a, b, Int.neg_mul, Int.mul_neg]
  · right
    rw [show (A.natAbs : Int) = -A by omega, show (B.natAbs : Int) = B by omega]; simp [a, b, Int.neg_mul, Int.mul_neg]
  · right
    rw [show (A.natAbs : Int) = A by omega, show (B.natAbs : Int) = -B by omega]; simp [a, b, Int.neg_mul, Int.mul_neg]
  · left
    rw [show (A.natAbs : Int) = A by omega, show (B.natAbs : Int) = B by omega]; simp [a, b, Int.neg_mul, Int.mul_neg]
theorem thr_false (A B C r : Int) (n3 : C ≠ 0) (hs : negAt 3 A B C = false) (r0 : 0 ≤ r) (r1 : r ≤ 1099511627776) (h1 : r = 0 ∨ decide (max (2 * r - 1) 0 * (C.natAbs : Int) ≤ 2 * ((A.natAbs : Int) * B.natAbs)) = true)
    (h2 : 1099511627776 < r + 1 ∨ decide (max (2 * (r + 1) - 1) 0 * (C.natAbs : Int) ≤ 2 * ((A.natAbs : Int) * B.natAbs)) = false) : lim (rnd (A * B) C) = r := by
  have hN : 0 ≤ (A.natAbs : Int) * B.natAbs := Int.mul_nonneg (by omega) (by omega)
  simp only [decide_eq_true_eq, decide_eq_false_iff_not] at h1 h2
  rw [← rnd_pos _ C.natAbs r hN (by omega) r0 r1 h1 h2]
  congr 1
  unfold rnd negAt at *
  simp only [show ¬ (3 < 1) by omega, show ¬ (3 < 2) by omega, show ¬ (3 < 3) by omega, if_false] at hs
  rcases prod_abs A B with ⟨e1, e2⟩ | ⟨e1, e2⟩ <;> rw [e1] <;> rw [e2] at hs <;> by_cases c : 0 < C
  · rw [if_pos c, show (C.natAbs : Int) = C by omega]
  · exfalso; rw [decide_eq_true (show C < 0 by omega)] at hs; simp at hs
  · exfalso; rw [decide_eq_false (show ¬ C < 0 by omega)] at hs; simp at hs
  · rw [if_neg c, show (C.natAbs : Int) = -C by omega]
    congr 1 <;> omega
theorem thr_true (A B C r : Int) (n3 : C ≠ 0) (hs : negAt 3 A B C = true) (r0 : 0 ≤ r) (r1 : r ≤ 1099511627776) (h1 : r = 0 ∨ decide (max (2 * r - 1) 0 * (C.natAbs : Int) < 2 * ((A.natAbs : Int) * B.natAbs)) = true)
    (h2 : 1099511627776 < r + 1 ∨ decide (max (2 * (r + 1) - 1) 0 * (C.natAbs : Int) < 2 * ((A.natAbs : Int) * B.natAbs)) = false) : lim (rnd (A * B) C) = -r := by
  have hN : 0 ≤ (A.natAbs : Int) * B.natAbs := Int.mul_nonneg (by omega) (by omega)
  simp only [decide_eq_true_eq, decide_eq_false_iff_not] at h1 h2
  rw [← rnd_neg _ C.natAbs r hN (by omega) r0 r1 h1 h2]
  congr 1
  unfold rnd negAt at *
  simp only [show ¬ (3 < 1) by omega, show ¬ (3 < 2) by omega, show ¬ (3 < 3) by omega, if_false] at hs
  rcases prod_abs A B with ⟨e1, e2⟩ | ⟨e1, e2⟩ <;> rw [e1] <;> rw [e2] at hs <;> by_cases c : 0 < C
  · exfalso; rw [decide_eq_false (show ¬ C < 0 by omega)] at hs; simp at hs
  · rw [if_neg c, show (C.natAbs : Int) = -C by omega]
    congr 1; omega
  · rw [if_pos c, show (C.natAbs : Int) = C by omega]
    congr 1; omega
  · exfalso; rw [decide_eq_true (show C < 0 by omega)] at hs; simp at hs

theorem rnd_zero (C : Int) : lim (rnd 0 C) = 0 := by
  have : rnd 0 C = 0 := by
    unfold rnd
    split
    · exact Int.ediv_eq_zero_of_lt (by omega) (by omega)
    · by_cases e : C = 0
      · subst e; rfl
      · exact Int.ediv_eq_zero_of_lt (by omega) (by omega)
  rw [this]; rfl

/-- A value that is a natural number. -/
def NatV (w : World) (v : Value) (n : Int) : Prop := ∃ ao len cap, v = .slice ao len cap ∧ len ≤ cap ∧ NatS w ao len n
theorem NatV.mono {w w' : World} {v : Value} {n : Int} (h : NatV w v n) (hb : Below w.heap.size w w') : NatV w' v n := by
  obtain ⟨ao, len, cap, h1, h2, h3⟩ := h
  exact ⟨ao, len, cap, h1, h2, h3.mono hb⟩
theorem NatS.put {w w2 : World} {ao : Option Addr} {len : Nat} {n : Int} {X : Nat} {t : TypeId} {v : Value} (h : NatS w ao len n) (p : Put w w2 X t v) (hX : w.heap[X]? = some (.cells #[.slice none 0 0] t (0, 0))) : NatS w2 ao len n := by
  obtain ⟨zs, h1, h2, h3, h4, h5⟩ := h
  refine ⟨zs, h1, h2, h3, h4, ?_⟩
  rcases h5 with h5 | ⟨g, k1, k2, k3⟩
  · exact Or.inl h5
  · by_cases hz : zs = []
    · exact Or.inl hz
    · have hne : g ≠ X := by
        intro e
        subst e
        have := k3 0 (List.length_pos_iff.2 hz)
        rw [cell_of_row w _ _ _ _ _ hX] at this
        simp at this
      exact Or.inr ⟨g, k1, by rw [p.size]; exact k2, fun j hj => (World.cell?_of_block (p.else_ g hne)).trans (k3 j hj)⟩
end Go.Proofs.Ytfckbkhnelgjbaa
end
/- fix: MulDiv, Mul, Div; the reference's Product. -/
section
namespace Go.Proofs.Ytfckbkhnelgjbaa
open Go.ChangeShapes Go.WideShapes Go.ChangeAt Go.RowKit Go.Mem
set_option linter.unusedVariables false

theorem rnd_eq (A B C : Int) (n3 : C ≠ 0) : rnd (A * B) C = if negAt 3 A B C then (-(2 * ((A.natAbs : Int) * B.natAbs)) + C.natAbs) / (2 * C.natAbs) else (2 * ((A.natAbs : Int) * B.natAbs) + C.natAbs) / (2 * C.natAbs) := by
  unfold rnd negAt
  simp only [show ¬ (3 < 1) by omega, show ¬ (3 < 2) by omega, show ¬ (3 < 3) by omega, if_false]
  have hp := prod_abs A B
  generalize (A.natAbs : Int) * B.natAbs = K at *
  generalize decide (B < 0) = b at *
  rcases hp with ⟨e1, e2⟩ | ⟨e1, e2⟩ <;> rw [e1] <;> rw [e2] <;> by_cases c : 0 < C
  · rw [if_pos c, show (C.natAbs : Int) = C by omega, decide_eq_false (show ¬ C < 0 by omega), show (b ^^ (b ^^ false)) = false by cases b <;> rfl]; rfl
  · rw [if_neg c, show (C.natAbs : Int) = -C by omega, decide_eq_true (show C < 0 by omega), show (b ^^ (b ^^ true)) = true by cases b <;> rfl, if_pos rfl]
    congr 1 <;> omega
  · rw [if_pos c, show (C.natAbs : Int) = C by omega, decide_eq_false (show ¬ C < 0 by omega), show (!b ^^ (b ^^ false)) = true by cases b <;> rfl, if_pos rfl]
    congr 1 <;> omega
  · rw [if_neg c, show (C.natAbs : Int) = -C by omega, decide_eq_true (show C < 0 by omega), show (!b ^^ (b ^^ true)) = false by cases b <;> rfl]
    show _ = (2 * K + -C) / (2 * -C)
    congr 1 <;> omega
/-- The quotient rounded, by the quotient and the remainder. -/
theorem up_pos (N D : Nat) (hD : 0 < D) : (2 * (N : Int) + D) / (2 * D) = if D ≤ 2 * (N % D) then ((N / D : Nat) : Int) + 1 else ((N / D : Nat) : Int) := by
  have e := Nat.div_add_mod N D
  have l := Nat.mod_lt N hD
  rw [Nat.mul_comm] at e
  obtain ⟨q, hq⟩ : ∃ q, q = N / D := ⟨_, rfl⟩
  obtain ⟨r, hr⟩ : ∃ r, r = N % D := ⟨_, rfl⟩
  rw [← hq, ← hr] at e ⊢
  rw [← hr] at l
  have e' : (N : Int) = q * D + r := by rw [← Int.natCast_mul]; omega
  have n1 : (q : Int) * (2 * D) = 2 * (q * D) := by rw [Int.mul_left_comm]
  have n2 : ((q : Int) + 1) * (2 * D) = 2 * (q * D) + 2 * D := by rw [Int.add_mul, n1, Int.one_mul]
  have n3 : ((q : Int) + 1 + 1) * (2 * D) = 2 * (q * D) + 2 * D + 2 * D := by rw [Int.add_mul, n2, Int.one_mul]
  split
  · refine Int.le_antisymm (Int.le_of_lt_add_one ?_) ?_
    · rw [Int.ediv_lt_iff_lt_mul (by omega)]; omega
    · rw [Int.le_ediv_iff_mul_le (by omega)]; omega
  · refine Int.le_antisymm (Int.le_of_lt_add_one ?_) ?_
    · rw [Int.ediv_lt_iff_lt_mul (by omega)]; omega
    · rw [Int.le_ediv_iff_mul_le (by omega)]; omega
theorem up_neg (N D : Nat) (hD : 0 < D) : (-(2 * (N : Int)) + D) / (2 * D) = -(if D < 2 * (N % D) then ((N / D : Nat) : Int) + 1 else ((N / D : Nat) : Int)) := by
  have e := Nat.div_add_mod N D
  have l := Nat.mod_lt N hD
  rw [Nat.mul_comm] at e
  obtain ⟨q, hq⟩ : ∃ q, q = N / D := ⟨_, rfl⟩
  obtain ⟨r, hr⟩ : ∃ r, r = N % D := ⟨_, rfl⟩
  rw [← hq, ← hr] at e ⊢
  rw [← hr] at l
  have e' : (N : Int) = q * D + r := by rw [← Int.natCast_mul]; omega
  have n1 : (q : Int) * (2 * D) = 2 * (q * D) := by rw [Int.mul_left_comm]
  have n2 : (-(q : Int)) * (2 * D) = -(2 * (q * D)) := by rw [Int.neg_mul, n1]
  have n3 : (-(q : Int) + 1) * (2 * D) = -(2 * (q * D)) + 2 * D := by rw [Int.add_mul, n2, Int.one_mul]
  have n4 : (-((q : Int) + 1)) * (2 * D) = -(2 * (q * D)) - 2 * D := by rw [Int.neg_mul, Int.add_mul, n1, Int.one_mul]; omega
  split
  · refine Int.le_antisymm (Int.le_of_lt_add_one ?_) ?_
    · rw [show -((q : Int) + 1) + 1 = -q by omega, Int.ediv_lt_iff_lt_mul (by omega)]; omega
    · rw [Int.le_ediv_iff_mul_le (by omega)]; omega
  · refine Int.le_antisymm (Int.le_of_lt_add_one ?_) ?_
    · rw [Int.ediv_lt_iff_lt_mul (by omega)]; omega
    · rw [Int.le_ediv_iff_mul_le (by omega)]; omega

/-- What MulDiv computes with. -/
structure MDFacts (A B C : Int) (NA NB D hi lo q rem : Nat) : Prop where
  dp : 0 < D
  dl : D ≤ 1099511627776
  hilo : hi * 18446744073709551616 + lo = NA * NB
  lol : lo < 18446744073709551616
  qE : q = NA * NB / D
  rE : rem = NA * NB % D
  rl : rem < D
  big : D ≤ hi → 1099511627776 < q
  eD : D = C.natAbs
  eA : NA = A.natAbs
  eB : NB = B.natAbs
  val : C ≠ 0 → lim (rnd (A * B) C) = if negAt 3 A B C then lim (-(if D < 2 * rem then (q : Int) + 1 else q)) else lim (if D ≤ 2 * rem then (q : Int) + 1 else q)
/-- What the answer is, by the sign and the rounding. -/
structure Ans (s : Bool) (R : Int) (D q rem : Nat) : Prop where
  bigT : 1099511627776 < q → s = true → -1099511627776 = R
  bigF : 1099511627776 < q → s = false → 1099511627776 = R
  upT : s = true → D < 2 * rem → lim (-((q : Int) + 1)) = R
  noT : s = true → ¬ D < 2 * rem → lim (-(q : Int)) = R
  upF : s = false → D ≤ 2 * rem → lim ((q : Int) + 1) = R
  noF : s = false → ¬ D ≤ 2 * rem → lim (q : Int) = R
theorem ans_of {s : Bool} {R : Int} {D q rem : Nat} (h : R = if s then lim (-(if D < 2 * rem then (q : Int) + 1 else q)) else lim (if D ≤ 2 * rem then (q : Int) + 1 else q)) : Ans s R D q rem := by
  subst h
  refine ⟨?_, ?_, ?_, ?_, ?_, ?_⟩
  · rintro hq rfl; rw [if_pos rfl]; unfold lim; split <;> omega
  · rintro hq rfl; rw [if_neg (by decide)]; unfold lim; split <;> omega
  · rintro rfl hd; rw [if_pos rfl, if_pos hd]
  · rintro rfl hd; rw [if_pos rfl, if_neg hd]
  · rintro rfl hd; rw [if_neg (by decide), if_pos hd]
  · rintro rfl hd; rw [if_neg (by decide), if_neg hd]
theorem md_facts (A B C : Int) (hA : -1099511627776 ≤ A ∧ A ≤ 1099511627776) (hB : -1099511627776 ≤ B ∧ B ≤ 1099511627776) (hC : -1099511627776 ≤ C ∧ C ≤ 1099511627776) (n3 : C ≠ 0) : ∃ NA NB D hi lo q rem, MDFacts A B C NA NB D hi lo q rem ∧ hi = NA * NB / 18446744073709551616 ∧ lo = NA * NB % 18446744073709551616 := by
  have hD : 0 < C.natAbs := by omega
  refine ⟨A.natAbs, B.natAbs, C.natAbs, A.natAbs * B.natAbs / 18446744073709551616, A.natAbs * B.natAbs % 18446744073709551616, A.natAbs * B.natAbs / C.natAbs, A.natAbs * B.natAbs % C.natAbs, ⟨hD, by omega, by omega, by omega, rfl, rfl, Nat.mod_lt _ hD, ?_, rfl, rfl, rfl, ?_⟩, rfl, rfl⟩
  · intro h
    have : 18446744073709551616 ≤ A.natAbs * B.natAbs / C.natAbs := by
      rw [Nat.le_div_iff_mul_le hD]; omega
    omega
  · intro _
    rw [rnd_eq A B C n3]
    have e : (A.natAbs : Int) * B.natAbs = ((A.natAbs * B.natAbs : Nat) : Int) := (Int.natCast_mul _ _).symm
    rw [e, up_pos _ _ hD, up_neg _ _ hD]
    cases negAt 3 A B C <;> rfl

set_option maxHeartbeats 4000000 in
set_option maxRecDepth 100000 in
theorem fix_MulDiv_raw (a b c A B C R : Int) (sa sb sc : Bool) (hA : lim a = A) (hB : lim b = B) (hC : lim c = C) (w : World) (n3 : C ≠ 0) (ha : decide (A < 0) = sa) (hb : decide (B < 0) = sb) (hc : decide (C < 0) = sc) (hR : lim (rnd (A * B) C) = R) :
    Calls Try.prog 58 #[.int .i64 a, .int .i64 b, .int .i64 c] w fun e w' => e = .returned (.int .i64 R) ∧ Below w.heap.size w w' := by
  have bA := lim_bd a
  have bB := lim_bd b
  have bC := lim_bd c
  rw [hA] at bA; rw [hB] at bB; rw [hC] at bC
  obtain ⟨NA, NB, D, hi, lo, q, rem, F, ehi, elo⟩ := md_facts A B C bA bB bC n3
  have hval := F.val n3
  have hs : negAt 3 A B C = (sa ^^ (sb ^^ sc)) := by
    simp only [negAt, ha, hb, hc, show ¬ (3 < 1) by omega, show ¬ (3 < 2) by omega, show ¬ (3 < 3) by omega, if_false]
  rw [hR, hs] at hval
  have kA : ∀ w, Calls Try.prog 16 #[.int .i64 a] w fun e w' => e = .returned (.int .i64 A) ∧ w = w' := fun w => by rw [← hA]; exact fix_Clamp a w
  have kB : ∀ w, Calls Try.prog 16 #[.int .i64 b] w fun e w' => e = .returned (.int .i64 B) ∧ w = w' := fun w => by rw [← hB]; exact fix_Clamp b w
  have kC : ∀ w, Calls Try.prog 16 #[.int .i64 c] w fun e w' => e = .returned (.int .i64 C) ∧ w = w' := fun w => by rw [← hC]; exact fix_Clamp c w
  have mA : ∀ w, Calls Try.prog 49 #[.int .i64 A] w fun e w' => e = .returned (.int .u64 NA) ∧ w = w' := fun w => by rw [F.eA]; exact fix_mag A bA.1 bA.2 w
  have mB : ∀ w, Calls Try.prog 49 #[.int .i64 B] w fun e w' => e = .returned (.int .u64 NB) ∧ w = w' := fun w => by rw [F.eB]; exact fix_mag B bB.1 bB.2 w
  have mC : ∀ w, Calls Try.prog 49 #[.int .i64 C] w fun e w' => e = .returned (.int .u64 D) ∧ w = w' := fun w => by rw [F.eD]; exact fix_mag C bC.1 bC.2 w
  have mM : ∀ w, Calls Try.prog 93 #[.int .u64 NA, .int .u64 NB] w fun e w' => e = .returned (.tuple #[.int .u64 hi, .int .u64 lo]) ∧ w = w' := fun w => by
    rw [ehi, elo]; exact bits_Mul64 NA NB (by rw [F.eA]; omega) (by rw [F.eB]; omega) w
  have mD : hi < D → ∀ w, Calls Try.prog 94 #[.int .u64 hi, .int .u64 lo, .int .u64 D] w fun e w' => e = .returned (.tuple #[.int .u64 q, .int .u64 rem]) ∧ Below w.heap.size w w' := fun h w => by
    have := bits_Div64 hi lo D F.dp (by have := F.dl; omega) h F.lol w
    rw [F.hilo] at this
    rw [F.qE, F.rE]; exact this
  have KA := Lib.hid kA
  have KB := Lib.hid kB
  have KC := Lib.hid kC
  have MA := Lib.hid mA
  have MB := Lib.hid mB
  have MC := Lib.hid mC
  have MM := Lib.hid mM
  have MD := Lib.hid mD
  have HV := Lib.hid (ans_of hval)
  have dp := F.dp
  have dl := F.dl
  have rl := F.rl
  have big := F.big
  have nz : (C == 0) = false := by simp [n3]
  clear kA kB kC mA mB mC mM mD hA hB hC hR hs hval ehi elo F n3
  have hB0 := Below.refl w.heap.size w
  go_enter Try.func58, Try.ntmps58
  by_cases hb1 : D ≤ hi
  · have t1 : decide ((D : Int) ≤ hi) = true := decide_eq_true (by omega)
    have BG := Lib.hid (big hb1)
    clear big MD
    cases sa <;> cases sb <;> cases sc
    all_goals
      go_wp2_with (first
        | (go_at_call 16; first | ((with_reducible refine (KA.out _).mono ?_); rintro e w1 ⟨rfl, rfl⟩) | ((with_reducible refine (KB.out _).mono ?_); rintro e w1 ⟨rfl, rfl⟩) | ((with_reducible refine (KC.out _).mono ?_); rintro e w1 ⟨rfl, rfl⟩) | (refine (fix_Clamp _ _).mono ?_; rintro e w1 ⟨rfl, rfl⟩))
        | (go_at_call 49; first | ((with_reducible refine (MA.out _).mono ?_); rintro e w1 ⟨rfl, rfl⟩) | ((with_reducible refine (MB.out _).mono ?_); rintro e w1 ⟨rfl, rfl⟩) | ((with_reducible refine (MC.out _).mono ?_); rintro e w1 ⟨rfl, rfl⟩))
        | (go_at_call 93; refine (MM.out _).mono ?_; rintro e w1 ⟨rfl, rfl⟩)
        | (go_at_call 94; refine (MD.out _).mono ?_; rintro e w1 ⟨rfl, hB0⟩))
      go_ret
      exact ⟨ret_i (by first | exact HV.out.bigT BG.out rfl | exact HV.out.bigF BG.out rfl), by assumption⟩
  · have t1 : decide ((D : Int) ≤ hi) = false := decide_eq_false (by omega)
    replace MD := Lib.hid (MD.out (by omega))
    by_cases hq : 1099511627776 < q
    · have t2 : decide ((1099511627776 : Int) < q) = true := decide_eq_true (by omega)
      have t3 : decide ((D : Int) ≤ 0) = false := decide_eq_false (by omega)
      have t4 : decide ((D : Int) < 0) = false := decide_eq_false (by omega)
      have e1 : IntKind.u64.wrap (D : Int) = D := Mul64.wrapN _ (by omega)
      cases sa <;> cases sb <;> cases sc
      all_goals
        go_wp2_with (first
        | (go_at_call 16; first | ((with_reducible refine (KA.out _).mono ?_); rintro e w1 ⟨rfl, rfl⟩) | ((with_reducible refine (KB.out _).mono ?_); rintro e w1 ⟨rfl, rfl⟩) | ((with_reducible refine (KC.out _).mono ?_); rintro e w1 ⟨rfl, rfl⟩) | (refine (fix_Clamp _ _).mono ?_; rintro e w1 ⟨rfl, rfl⟩))
        | (go_at_call 49; first | ((with_reducible refine (MA.out _).mono ?_); rintro e w1 ⟨rfl, rfl⟩) | ((with_reducible refine (MB.out _).mono ?_); rintro e w1 ⟨rfl, rfl⟩) | ((with_reducible refine (MC.out _).mono ?_); rintro e w1 ⟨rfl, rfl⟩))
        | (go_at_call 93; refine (MM.out _).mono ?_; rintro e w1 ⟨rfl, rfl⟩)
        | (go_at_call 94; refine (MD.out _).mono ?_; rintro e w1 ⟨rfl, hB0⟩))
        go_ret
        exact ⟨ret_i (by first | exact HV.out.bigT hq rfl | exact HV.out.bigF hq rfl), by assumption⟩
    · have t2 : decide ((1099511627776 : Int) < q) = false := decide_eq_false (by omega)
      have e2 : IntKind.i64.wrap (q : Int) = q := IntWalk.i64_in _ (by omega)
      have e3 : IntKind.i64.wrap ((q : Int) + 1) = q + 1 := IntWalk.i64_in _ (by omega)
      by_cases u1 : D ≤ 2 * rem
      · have t3 : decide ((D : Int) - rem ≤ rem) = true := decide_eq_true (by omega)
        by_cases u2 : D < 2 * rem
        · have t4 : decide ((D : Int) - rem < rem) = true := decide_eq_true (by omega)
          cases sa <;> cases sb <;> cases sc
          all_goals
            go_wp2_with (first
        | (go_at_call 16; first | ((with_reducible refine (KA.out _).mono ?_); rintro e w1 ⟨rfl, rfl⟩) | ((with_reducible refine (KB.out _).mono ?_); rintro e w1 ⟨rfl, rfl⟩) | ((with_reducible refine (KC.out _).mono ?_); rintro e w1 ⟨rfl, rfl⟩) | (refine (fix_Clamp _ _).mono ?_; rintro e w1 ⟨rfl, rfl⟩))
        | (go_at_call 49; first | ((with_reducible refine (MA.out _).mono ?_); rintro e w1 ⟨rfl, rfl⟩) | ((with_reducible refine (MB.out _).mono ?_); rintro e w1 ⟨rfl, rfl⟩) | ((with_reducible refine (MC.out _).mono ?_); rintro e w1 ⟨rfl, rfl⟩))
        | (go_at_call 93; refine (MM.out _).mono ?_; rintro e w1 ⟨rfl, rfl⟩)
        | (go_at_call 94; refine (MD.out _).mono ?_; rintro e w1 ⟨rfl, hB0⟩))
            go_ret
            exact ⟨ret_i (by first | (have g := HV.out.upT rfl u2; exact g) | (have g := HV.out.upF rfl u1; exact g)), by assumption⟩
        · have t4 : decide ((D : Int) - rem < rem) = false := decide_eq_false (by omega)
          cases sa <;> cases sb <;> cases sc
          all_goals
            go_wp2_with (first
        | (go_at_call 16; first | ((with_reducible refine (KA.out _).mono ?_); rintro e w1 ⟨rfl, rfl⟩) | ((with_reducible refine (KB.out _).mono ?_); rintro e w1 ⟨rfl, rfl⟩) | ((with_reducible refine (KC.out _).mono ?_); rintro e w1 ⟨rfl, rfl⟩) | (refine (fix_Clamp _ _).mono ?_; rintro e w1 ⟨rfl, rfl⟩))
        | (go_at_call 49; first | ((with_reducible refine (MA.out _).mono ?_); rintro e w1 ⟨rfl, rfl⟩) | ((with_reducible refine (MB.out _).mono ?_); rintro e w1 ⟨rfl, rfl⟩) | ((with_reducible refine (MC.out _).mono ?_); rintro e w1 ⟨rfl, rfl⟩))
        | (go_at_call 93; refine (MM.out _).mono ?_; rintro e w1 ⟨rfl, rfl⟩)
        | (go_at_call 94; refine (MD.out _).mono ?_; rintro e w1 ⟨rfl, hB0⟩))
            go_ret
            exact ⟨ret_i (by first | (have g := HV.out.noT rfl u2; exact g) | (have g := HV.out.upF rfl u1; exact g)), by assumption⟩
      · have t3 : decide ((D : Int) - rem ≤ rem) = false := decide_eq_false (by omega)
        have u2 : ¬ D < 2 * rem := by omega
        have t4 : decide ((D : Int) - rem < rem) = false := decide_eq_false (by omega)
        cases sa <;> cases sb <;> cases sc
        all_goals
          go_wp2_with (first
        | (go_at_call 16; first | ((with_reducible refine (KA.out _).mono ?_); rintro e w1 ⟨rfl, rfl⟩) | ((with_reducible refine (KB.out _).mono ?_); rintro e w1 ⟨rfl, rfl⟩) | ((with_reducible refine (KC.out _).mono ?_); rintro e w1 ⟨rfl, rfl⟩) | (refine (fix_Clamp _ _).mono ?_; rintro e w1 ⟨rfl, rfl⟩))
        | (go_at_call 49; first | ((with_reducible refine (MA.out _).mono ?_); rintro e w1 ⟨rfl, rfl⟩) | ((with_reducible refine (MB.out _).mono ?_); rintro e w1 ⟨rfl, rfl⟩) | ((with_reducible refine (MC.out _).mono ?_); rintro e w1 ⟨rfl, rfl⟩))
        | (go_at_call 93; refine (MM.out _).mono ?_; rintro e w1 ⟨rfl, rfl⟩)
        | (go_at_call 94; refine (MD.out _).mono ?_; rintro e w1 ⟨rfl, hB0⟩))
          go_ret
          exact ⟨ret_i (by first | (have g := HV.out.noT rfl u2; exact g) | (have g := HV.out.noF rfl u1; exact g)), by assumption⟩

theorem fix_MulDiv (a b c : Int) (w : World) : Calls Try.prog 58 #[.int .i64 a, .int .i64 b, .int .i64 c] w fun e w' => e = .returned (.int .i64 (thr a b c)) ∧ Below w.heap.size w w' := by
  by_cases n3 : lim c = 0
  · have kC : ∀ w, Calls Try.prog 16 #[.int .i64 c] w fun e w' => e = .returned (.int .i64 0) ∧ w = w' := fun w => by rw [← n3]; exact fix_Clamp c w
    have KC := Lib.hid kC
    have hz : thr a b c = 0 := by unfold thr; rw [if_pos n3]
    clear kC
    go_enter Try.func58, Try.ntmps58
    go_wp2_with (go_at_call 16; first | ((with_reducible refine (KC.out _).mono ?_); rintro e w1 ⟨rfl, rfl⟩) | (refine (fix_Clamp _ _).mono ?_; rintro e w1 ⟨rfl, rfl⟩))
    go_ret
    exact ⟨ret_i hz.symm, Below.refl _ _⟩
  · have hz : thr a b c = lim (rnd (lim a * lim b) (lim c)) := by unfold thr; rw [if_neg n3]
    rw [hz]
    exact fix_MulDiv_raw a b c _ _ _ _ _ _ _ rfl rfl rfl w n3 rfl rfl rfl rfl

theorem fix_Mul (a b : Int) (w : World) : Calls Try.prog 19 #[.int .i64 a, .int .i64 b] w fun e w' => e = .returned (.int .i64 (thr a b 65536)) ∧ Below w.heap.size w w' := by
  go_enter Try.func19, Try.ntmps19
  go_wp2_with (go_at_call 58; refine (fix_MulDiv _ _ _ _).mono ?_; rintro e w1 ⟨rfl, hB⟩)
  go_ret
  exact ⟨rfl, hB⟩
end Go.Proofs.Ytfckbkhnelgjbaa
end
