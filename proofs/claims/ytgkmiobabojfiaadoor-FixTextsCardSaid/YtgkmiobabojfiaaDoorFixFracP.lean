/- Plain laws, with no program in sight: a row of digits doubled sixteen times; and a row of bytes of the call's own, changed in its place. -/
import Derived.Test.YtgkmiobabojfiaaDoorFixReadP
import Derived.Test.YtgkmiobabojfiaaDoorMem2
namespace Go.Proofs.YtgkmiobabojfiaaDoor
open Go.RowKit
set_option linter.unusedVariables false
/-- a row of decimal digits, doubled: what is carried out, and the digits -/
def dbl : List Nat → Nat × List Nat
  | [] => (0, [])
  | d :: r => ((2 * d + (dbl r).1) / 10, (2 * d + (dbl r).1) % 10 :: (dbl r).2)
theorem dbl_cons (d : Nat) (r : List Nat) : dbl (d :: r) = ((2 * d + (dbl r).1) / 10, (2 * d + (dbl r).1) % 10 :: (dbl r).2) := rfl
def vd : List Nat → Nat
  | [] => 0
  | d :: r => d * 10 ^ r.length + vd r
theorem vd_cons (d : Nat) (r : List Nat) : vd (d :: r) = d * 10 ^ r.length + vd r := rfl
def Digs (l : List Nat) : Prop := ∀ d ∈ l, d < 10
theorem Digs.get {l : List Nat} (h : Digs l) (j : Nat) (hj : j < l.length) : l.getD j 0 < 10 := by
  rw [List.getD_eq_getElem?_getD, List.getElem?_eq_getElem hj]
  exact h _ (List.getElem_mem hj)
theorem vd_lt (l : List Nat) (h : Digs l) : vd l < 10 ^ l.length := by
  induction l with
  | nil => simp [vd]
  | cons d r ih =>
    have h1 := ih fun x hx => h x (List.mem_cons_of_mem _ hx)
    have h2 := h d List.mem_cons_self
    rw [vd_cons, List.length_cons, Nat.pow_succ]
    have h3 : d * 10 ^ r.length ≤ 9 * 10 ^ r.length := Nat.mul_le_mul_right _ (by omega)
    omega
theorem dbl_len (l : List Nat) : (dbl l).2.length = l.length := by
  induction l with
  | nil => rfl
  | cons d r ih => rw [dbl_cons]; simp [ih]
theorem dbl_digs (l : List Nat) : Digs (dbl l).2 := by
  induction l with
  | nil => intro d h; cases h
  | cons d r ih =>
    intro x hx
    rw [dbl_cons] at hx
    rcases List.mem_cons.1 hx with rfl | hx
    · exact Nat.mod_lt _ (by decide)
    · exact ih x hx
theorem dbl_carry (l : List Nat) (h : Digs l) : (dbl l).1 ≤ 1 := by
  induction l with
  | nil => exact Nat.zero_le _
  | cons d r ih =>
    have h1 := ih fun x hx => h x (List.mem_cons_of_mem _ hx)
    have h2 := h d List.mem_cons_self
    rw [dbl_cons]
    show (2 * d + (dbl r).1) / 10 ≤ 1
    omega
theorem dbl_val (l : List Nat) : (dbl l).1 * 10 ^ l.length + vd (dbl l).2 = 2 * vd l := by
  induction l with
  | nil => rfl
  | cons d r ih =>
    rw [dbl_cons, vd_cons, vd_cons, dbl_len, List.length_cons, Nat.pow_succ]
    show (2 * d + (dbl r).1) / 10 * (10 ^ r.length * 10) + ((2 * d + (dbl r).1) % 10 * 10 ^ r.length + vd (dbl r).2) = _
    have h1 := Nat.div_add_mod (2 * d + (dbl r).1) 10
    generalize (2 * d + (dbl r).1) / 10 = q at h1 ⊢
    generalize (2 * d + (dbl r).1) % 10 = m at h1 ⊢
    have h2 : q * (10 ^ r.length * 10) + m * 10 ^ r.length = (2 * d + (dbl r).1) * 10 ^ r.length := by
      rw [← h1, Nat.add_mul, Nat.mul_comm (10 ^ r.length) 10, ← Nat.mul_assoc, Nat.mul_comm q 10]
    rw [Nat.add_mul] at h2
    have h3 : 2 * (d * 10 ^ r.length + vd r) = 2 * d * 10 ^ r.length + 2 * vd r := by rw [Nat.mul_add, Nat.mul_assoc]
    rw [h3, ← ih]
    omega
/-- k times: the number that was carried out, and the digits -/
def dbls : Nat → List Nat → Nat × List Nat
  | 0, l => (0, l)
  | k + 1, l => (2 * (dbls k l).1 + (dbl (dbls k l).2).1, (dbl (dbls k l).2).2)
theorem dbls_succ (k : Nat) (l : List Nat) : dbls (k + 1) l = (2 * (dbls k l).1 + (dbl (dbls k l).2).1, (dbl (dbls k l).2).2) := rfl
theorem dbls_len (k : Nat) (l : List Nat) : (dbls k l).2.length = l.length := by
  induction k with
  | zero => rfl
  | succ k ih => rw [dbls_succ]; exact (dbl_len _).trans ih
theorem dbls_digs (k : Nat) (l : List Nat) (h : Digs l) : Digs (dbls k l).2 := by
  cases k with
  | zero => exact h
  | succ k => exact dbl_digs _
theorem dbls_lt (k : Nat) (l : List Nat) (h : Digs l) : (dbls k l).1 < 2 ^ k := by
  induction k with
  | zero => exact Nat.one_pos
  | succ k ih =>
    have := dbl_carry _ (dbls_digs k l h)
    rw [dbls_succ, Nat.pow_succ]
    show 2 * (dbls k l).1 + (dbl (dbls k l).2).1 < _
    omega
theorem dbls_val (k : Nat) (l : List Nat) : (dbls k l).1 * 10 ^ l.length + vd (dbls k l).2 = 2 ^ k * vd l := by
  induction k with
  | zero => simp [dbls]
  | succ k ih =>
    have h1 := dbl_val (dbls k l).2
    rw [dbls_len] at h1
    rw [dbls_succ, Nat.pow_succ]
    show (2 * (dbls k l).1 + (dbl (dbls k l).2).1) * 10 ^ l.length + vd (dbl (dbls k l).2).2 = _
    rw [Nat.add_mul, Nat.mul_assoc, Nat.add_assoc, h1, ← Nat.mul_add, ih, Nat.mul_comm (2 ^ k) 2, Nat.mul_assoc]
theorem vd_zero (l : List Nat) : vd l = 0 ↔ ∀ d ∈ l, d = 0 := by
  induction l with
  | nil => simp [vd]
  | cons d r ih =>
    rw [vd_cons, Nat.add_eq_zero_iff, ih, List.forall_mem_cons]
    have : 0 < 10 ^ r.length := Nat.pow_pos (by decide)
    constructor
    · rintro ⟨h1, h2⟩
      exact ⟨by rcases Nat.mul_eq_zero.1 h1 with h | h <;> omega, h2⟩
    · rintro ⟨rfl, h2⟩
      exact ⟨by simp, h2⟩
/-- the digits of the bytes -/
def dgs (l : List UInt8) : List Nat := l.map fun c => c.toNat - 48
theorem dgs_len (l : List UInt8) : (dgs l).length = l.length := by unfold dgs; simp
theorem dgs_digs (l : List UInt8) (h : l.all dgB = true) : Digs (dgs l) := by
  intro d hd
  obtain ⟨c, hc, rfl⟩ := List.mem_map.1 hd
  have := List.all_eq_true.1 h c hc
  unfold dgB at this
  simp at this
  omega
theorem dgs_val (l : List UInt8) : vd (dgs l) = valA 0 l := by
  induction l with
  | nil => rfl
  | cons c r ih =>
    rw [valA_cons0, valA_split, ← ih]
    show (c.toNat - 48) * 10 ^ (dgs r).length + vd (dgs r) = _
    rw [dgs_len]
theorem frac_num (l : List UInt8) (h : l.all dgB = true) : (dbls 16 (dgs l)).1 = 65536 * valA 0 l / 10 ^ l.length := by
  have h1 := dbls_val 16 (dgs l)
  have h2 := vd_lt _ (dbls_digs 16 _ (dgs_digs l h))
  rw [dbls_len, dgs_len] at h2
  rw [dgs_val, dgs_len] at h1
  rw [show (65536 : Nat) = 2 ^ 16 from rfl, ← h1, Nat.mul_comm]
  have : 0 < 10 ^ l.length := Nat.pow_pos (by decide)
  rw [Nat.mul_add_div this, Nat.div_eq_of_lt h2, Nat.add_zero]
theorem frac_rest (l : List UInt8) (h : l.all dgB = true) : vd (dbls 16 (dgs l)).2 = 65536 * valA 0 l % 10 ^ l.length := by
  have h1 := dbls_val 16 (dgs l)
  have h2 := vd_lt _ (dbls_digs 16 _ (dgs_digs l h))
  rw [dbls_len, dgs_len] at h2
  rw [dgs_val, dgs_len] at h1
  rw [show (65536 : Nat) = 2 ^ 16 from rfl, ← h1, Nat.mul_comm, Nat.mul_add_mod, Nat.mod_eq_of_lt h2]
/-- the row with the digits from place q on doubled -/
def half (l : List Nat) (q : Nat) : List Nat := l.take q ++ (dbl (l.drop q)).2
theorem half_len (l : List Nat) (q : Nat) (h : q ≤ l.length) : (half l q).length = l.length := by
  unfold half
  rw [List.length_append, dbl_len, ← List.length_append, List.take_append_drop]
theorem half_top (l : List Nat) : half l l.length = l := by unfold half; simp [dbl]
theorem half_zero (l : List Nat) : half l 0 = (dbl l).2 := by unfold half; simp
theorem half_get (l : List Nat) (q : Nat) (h : q < l.length) : (half l (q + 1)).getD q 0 = l.getD q 0 := by
  unfold half
  rw [List.getD_eq_getElem?_getD, List.getElem?_append_left (by simp; omega), List.getElem?_take_of_lt (by omega), ← List.getD_eq_getElem?_getD]
theorem half_step (l : List Nat) (q : Nat) (h : q < l.length) : dbl (l.drop q) = ((2 * l.getD q 0 + (dbl (l.drop (q + 1))).1) / 10, (2 * l.getD q 0 + (dbl (l.drop (q + 1))).1) % 10 :: (dbl (l.drop (q + 1))).2) := by
  rw [List.drop_eq_getElem_cons h, dbl_cons, List.getD_eq_getElem?_getD, List.getElem?_eq_getElem h]
  rfl
theorem half_set (l : List Nat) (q : Nat) (h : q < l.length) : (half l (q + 1)).set q ((2 * l.getD q 0 + (dbl (l.drop (q + 1))).1) % 10) = half l q := by
  unfold half
  rw [half_step l q h, List.take_succ_eq_append_getElem h, List.append_assoc, List.set_append_right _ _ (by rw [List.length_take]; omega)]
  simp [Nat.min_eq_left (Nat.le_of_lt h)]
/-- the bytes with the first q less by 48 -/
def low (l : List UInt8) (q : Nat) : List Nat := dgs (l.take q) ++ (l.drop q).map fun c => c.toNat
theorem low_len (l : List UInt8) (q : Nat) : (low l q).length = l.length := by unfold low dgs; simp; omega
theorem low_top (l : List UInt8) : low l l.length = dgs l := by unfold low; simp
theorem low_get (l : List UInt8) (q : Nat) (h : q < l.length) : (low l q).getD q 0 = l[q].toNat := by
  unfold low dgs
  rw [List.getD_eq_getElem?_getD, List.getElem?_append_right (by rw [List.length_map, List.length_take]; omega)]
  simp [Nat.min_eq_left (Nat.le_of_lt h), h]
theorem low_zero (l : List UInt8) (j : Nat) (h : j < l.length) : (low l 0).getD j 0 = (l.getD j 0).toNat := by
  unfold low dgs
  simp [List.getD_eq_getElem?_getD, h]
theorem low_set (l : List UInt8) (q : Nat) (h : q < l.length) : (low l q).set q (l[q].toNat - 48) = low l (q + 1) := by
  unfold low dgs
  rw [List.drop_eq_getElem_cons h, List.take_succ_eq_append_getElem h, List.set_append_right _ _ (by rw [List.length_map, List.length_take]; omega), List.map_append, List.map_cons, List.map_cons, List.map_nil, List.append_assoc]
  rw [List.length_map, List.length_take, show q - min q l.length = 0 by omega, List.set_cons_zero]
  rfl
/-- block g starts with these bytes, and they may be written -/
def BA (w : World) (g : Nat) (l : List Nat) : Prop := g < w.heap.size ∧ ∀ j, j < l.length → w.cell? ⟨g, j, none⟩ = some (.int .u8 (l.getD j 0 : Nat)) ∧ w.frozen? ⟨g, j, none⟩ = false
theorem BA.set {w : World} {g : Nat} {l : List Nat} (h : BA w g l) (q v : Nat) (z : Int) (hz : z = (v : Int)) : BA (w.setCell ⟨g, q, none⟩ (.int .u8 z)) g (l.set q v) := by
  subst hz
  refine ⟨by simpa using h.1, fun j hj => ?_⟩
  rw [List.length_set] at hj
  obtain ⟨h1, h2⟩ := h.2 j hj
  refine ⟨?_, by simpa using h2⟩
  by_cases e : q = j
  · subst e
    rw [World.cell?_setCell_same _ _ _ h1]
    simp [List.getD_eq_getElem?_getD, hj]
  · rw [World.cell?_setCell_other _ _ _ _ (by intro h; injection h; omega), h1]
    simp [List.getD_eq_getElem?_getD, e]
theorem BA.below {w w2 : World} {g : Nat} {l : List Nat} (h : BA w g l) (hb : Below w.heap.size w w2) : BA w2 g l := by
  refine ⟨Nat.lt_of_lt_of_le h.1 hb.size, fun j hj => ?_⟩
  obtain ⟨h1, h2⟩ := h.2 j hj
  refine ⟨(hb.cell h.1).trans h1, ?_⟩
  unfold World.frozen? at h2 ⊢
  rw [hb.block g h.1]
  exact h2
theorem or_low (n c : Nat) (hn : n < 1073741824) (hc : c ≤ 1) : bits .or .i64 (2 * (n : Int)) (c : Int) = 2 * (n : Int) + c := by
  have hx : (2 * n) ||| c = 2 * n + c := by
    rcases (show c = 0 ∨ c = 1 by omega) with rfl | rfl
    · simp
    · have := Nat.two_pow_add_eq_or_of_lt (i := 1) (b := 1) (by decide) n
      simpa using this.symm
  have h1 : (BitVec.ofInt 64 (2 * (n : Int))).toNat = 2 * n := by
    rw [show 2 * (n : Int) = ((2 * n : Nat) : Int) by omega, BitVec.ofInt_natCast, BitVec.toNat_ofNat]; exact Nat.mod_eq_of_lt (by omega)
  have h2 : (BitVec.ofInt 64 (c : Int)).toNat = c := by
    rw [BitVec.ofInt_natCast, BitVec.toNat_ofNat]; exact Nat.mod_eq_of_lt (by omega)
  show IntKind.i64.wrap ((BitVec.ofInt 64 (2 * (n : Int)) ||| BitVec.ofInt 64 (c : Int)).toNat : Int) = _
  rw [BitVec.toNat_or, h1, h2, hx, IntKind.wrap_i64]
  omega
end Go.Proofs.YtgkmiobabojfiaaDoor
