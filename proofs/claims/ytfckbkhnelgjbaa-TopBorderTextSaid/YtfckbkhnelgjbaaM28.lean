/- Lemmas for the law TopBorderText: FixFracP, FixFrac, FixRead. No conditions. -/
import Derived.Test.YtfckbkhnelgjbaaM24
import Derived.Test.YtfckbkhnelgjbaaM01
import Derived.Test.YtfckbkhnelgjbaaM26
import Derived.Lib.ConvBytes
import Derived.Lib.SmallJoins
import Derived.Deep.DeepMust
import Derived.Deep.LoopGhost
import Derived.Lib.Hide
import Derived.Lib.MinMax
/- Plain laws, with no program in sight: a row of digits doubled sixteen times; and a row of bytes of the call's own, changed in its place. -/
section
namespace Go.Proofs.Ytfckbkhnelgjbaa
open Go.RowKit
set_option linter.unusedVariables false
/-- a row of decimal digits, doubled: what is carried out, and the digits -/
def dbl : List Nat → Nat × List Nat
  | [] => (0, [])
  | d :: r => ((2 * d + (dbl r).1) / 10, (2 * d + (dbl r).1) % 10 :: (dbl r).2)
theorem dbl_cons (d : Nat) (r : List Nat) : dbl (d :: r) = ((2 * d + (dbl r).1) / 10, (2 * d + (dbl r).1) % 10 :: (dbl r).2) := rfl
def vd : List Nat → Nat
  | [] => 0
  | d :: r => d * 10 ^ r.length + vd r
theorem vd_cons (d : Nat) (r : List Nat) : vd (d :: r) = d * 10 ^ r.length + vd r := rfl
def Digs (l : List Nat) : Prop := ∀ d ∈ l, d < 10
theorem Digs.get {l : List Nat} (h : Digs l) (j : Nat) (hj : j < l.length) : l.getD j 0 < 10 := by
  rw [List.getD_eq_getElem?_getD, List.getElem?_eq_getElem hj]
  exact h _ (List.getElem_mem hj)
theorem vd_lt (l : List Nat) (h : Digs l) : vd l < 10 ^ l.length := by
  induction l with
  | nil => simp [vd]
  | cons d r ih =>
    have h1 := ih fun x hx => h x (List.mem_cons_of_mem _ hx)
    have h2 := h d List.mem_cons_self
    rw [vd_cons, List.length_cons, Nat.pow_succ]
    have h3 : d * 10 ^ r.length ≤ 9 * 10 ^ r.length := Nat.mul_le_mul_right _ (by omega)
    omega
theorem dbl_len (l : List Nat) : (dbl l).2.length = l.length := by
  induction l with
  | nil => rfl
  | cons d r ih => rw [dbl_cons]; simp [ih]
theorem dbl_digs (l : List Nat) : Digs (dbl l).2 := by
  induction l with
  | nil => intro d h; cases h
  | cons d r ih =>
    intro x hx
    rw [dbl_cons] at hx
    rcases List.mem_cons.1 hx with rfl | hx
    · exact Nat.mod_lt _ (by decide)
    · exact ih x hx
theorem dbl_carry (l : List Nat) (h : Digs l) : (dbl l).1 ≤ 1 := by
  induction l with
  | nil => exact Nat.zero_le _
  | cons d r ih =>
    have h1 := ih fun x hx => h x (List.mem_cons_of_mem _ hx)
    have h2 := h d List.mem_cons_self
    rw [dbl_cons]
    show (2 * d + (dbl r).1) / 10 ≤ 1
    omega
theorem dbl_val (l : List Nat) : (dbl l).1 * 10 ^ l.length + vd (dbl l).2 = 2 * vd l := by
  induction l with
  | nil => rfl
  | cons d r ih =>
    rw [dbl_cons, vd_cons, vd_cons, dbl_len, List.length_cons, Nat.pow_succ]
    show (2 * d + (dbl r).1) / 10 * (10 ^ r.length * 10) + ((2 * d + (dbl r).1) % 10 * 10 ^ r.length + vd (dbl r).2) = _
    have h1 := Nat.div_add_mod (2 * d + (dbl r).1) 10
    generalize (2 * d + (dbl r).1) / 10 = q at h1 ⊢
    generalize (2 * d + (dbl r).1) % 10 = m at h1 ⊢
    have h2 : q * (10 ^ r.length * 10) + m * 10 ^ r.length = (2 * d + (dbl r).1) * 10 ^ r.length := by
      rw [← h1, Nat.add_mul, Nat.mul_comm (10 ^ r.length) 10, ← Nat.mul_assoc, Nat.mul_comm q 10]
    rw [Nat.add_mul] at h2
    have h3 : 2 * (d * 10 ^ r.length + vd r) = 2 * d * 10 ^ r.length + 2 * vd r := by rw [Nat.mul_add, Nat.mul_assoc]
    rw [h3, ← ih]
    omega
/-- k times: the number that was carried out, and the digits -/
def dbls : Nat → List Nat → Nat × List Nat
  | 0, l => (0, l)
  | k + 1, l => (2 * (dbls k l).1 + (dbl (dbls k l).2).1, (dbl (dbls k l).2).2)
theorem dbls_succ (k : Nat) (l : List Nat) : dbls (k + 1) l = (2 * (dbls k l).1 + (dbl (dbls k l).2).1, (dbl (dbls k l).2).2) := rfl
theorem dbls_len (k : Nat) (l : List Nat) : (dbls k l).2.length = l.length := by
  induction k with
  | zero => rfl
  | succ k ih => rw [dbls_succ]; exact (dbl_len _).trans ih
theorem dbls_digs (k : Nat) (l : List Nat) (h : Digs l) : Digs (dbls k l).2 := by
  cases k with
  | zero => exact h
  | succ k => exact dbl_digs _
theorem dbls_lt (k : Nat) (l : List Nat) (h : Digs l) : (dbls k l).1 < 2 ^ k := by
  induction k with
  | zero => exact Nat.one_pos
  | succ k ih =>
    have := dbl_carry _ (dbls_digs k l h)
    rw [dbls_succ, Nat.pow_succ]
    show 2 * (dbls k l).1 + (dbl (dbls k l).2).1 < _
    omega
theorem dbls_val (k : Nat) (l : List Nat) : (dbls k l).1 * 10 ^ l.length + vd (dbls k l).2 = 2 ^ k * vd l := by
  induction k with
  | zero => simp [dbls]
  | succ k ih =>
    have h1 := dbl_val (dbls k l).2
    rw [dbls_len] at h1
    rw [dbls_succ, Nat.pow_succ]
    show (2 * (dbls k l).1 + (dbl (dbls k l).2).1) * 10 ^ l.length + vd (dbl (dbls k l).2).2 = _
    rw [Nat.add_mul, Nat.mul_assoc, Nat.add_assoc, h1, ← Nat.mul_add, ih, Nat.mul_comm (2 ^ k) 2, Nat.mul_assoc]
theorem vd_zero (l : List Nat) : vd l = 0 ↔ ∀ d ∈ l, d = 0 := by
  induction l with
  | nil => simp [vd]
  | cons d r ih =>
    rw [vd_cons, Nat.add_eq_zero_iff, ih, List.forall_mem_cons]
    have : 0 < 10 ^ r.length := Nat.pow_pos (by decide)
    constructor
    · rintro ⟨h1, h2⟩
      exact ⟨by rcases Nat.mul_eq_zero.1 h1 with h | h <;> omega, h2⟩
    · rintro ⟨rfl, h2⟩
      exact ⟨by simp, h2⟩
/-- the digits of the bytes -/
def dgs (l : List UInt8) : List Nat := l.map fun c => c.toNat - 48
theorem dgs_len (l : List UInt8) : (dgs l).length = l.length := by unfold dgs; simp
theorem dgs_digs (l : List UInt8) (h : l.all dgB = true) : Digs (dgs l) := by
  intro d hd
  obtain ⟨c, hc, rfl⟩ := List.mem_map.1 hd
  have := List.all_eq_true.1 h c hc
  unfold dgB at this
  simp at this
  omega
theorem dgs_val (l : List UInt8) : vd (dgs l) = valA 0 l := by
  induction l with
  | nil => rfl
  | cons c r ih =>
    rw [valA_cons0, valA_split, ← ih]
    show (c.toNat - 48) * 10 ^ (dgs r).length + vd (dgs r) = _
    rw [dgs_len]
theorem frac_num (l : List UInt8) (h : l.all dgB = true) : (dbls 16 (dgs l)).1 = 65536 * valA 0 l / 10 ^ l.length := by
  have h1 := dbls_val 16 (dgs l)
  have h2 := vd_lt _ (dbls_digs 16 _ (dgs_digs l h))
  rw [dbls_len, dgs_len] at h2
  rw [dgs_val, dgs_len] at h1
  rw [show (65536 : Nat) = 2 ^ 16 from rfl, ← h1, Nat.mul_comm]
  have : 0 < 10 ^ l.length := Nat.pow_pos (by decide)
  rw [Nat.mul_add_div this, Nat.div_eq_of_lt h2, Nat.add_zero]
theorem frac_rest (l : List UInt8) (h : l.all dgB = true) : vd (dbls 16 (dgs l)).2 = 65536 * valA 0 l % 10 ^ l.length := by
  have h1 := dbls_val 16 (dgs l)
  have h2 := vd_lt _ (dbls_digs 16 _ (dgs_digs l h))
  rw [dbls_len, dgs_len] at h2
  rw [dgs_val, dgs_len] at h1
  rw [show (65536 : Nat) = 2 ^ 16 from rfl, ← h1, Nat.mul_comm, Nat.mul_add_mod, Nat.mod_eq_of_lt h2]
/-- the row with the digits from place q on doubled -/
def half (l : List Nat) (q : Nat) : List Nat := l.take q ++ (dbl (l.drop q)).2
theorem half_len (l : List Nat) (q : Nat) (h : q ≤ l.length) : (half l q).length = l.length := by
  unfold half
  rw [List.length_append, dbl_len, ← List.length_append, List.take_append_drop]
theorem half_top (l : List Nat) : half l l.length = l := by unfold half; simp [dbl]
theorem half_zero (l : List Nat) : half l 0 = (dbl l).2 := by unfold half; simp
theorem half_get (l : List Nat) (q : Nat) (h : q < l.length) : (half l (q + 1)).getD q 0 = l.getD q 0 := by
  unfold half
  rw [List.getD_eq_getElem?_getD, List.getElem?_append_left (by simp; omega), List.getElem?_take_of_lt (by omega), ← List.getD_eq_getElem?_getD]
theorem half_step (l : List Nat) (q : Nat) (h : q < l.length) : dbl (l.drop q) = ((2 * l.getD q 0 + (dbl (l.drop (q + 1))).1) / 10, (2 * l.getD q 0 + (dbl (l.drop (q + 1))).1) % 10 :: (dbl (l.drop (q + 1))).2) := by
  rw [List.drop_eq_getElem_cons h, dbl_cons, List.getD_eq_getElem?_getD, List.getElem?_eq_getElem h]
  rfl
theorem half_set (l : List Nat) (q : Nat) (h : q < l.length) : (half l (q + 1)).set q ((2 * l.getD q 0 + (dbl (l.drop (q + 1))).1) % 10) = half l q := by
  unfold half
  rw [half_step l q h, List.take_succ_eq_append_getElem h, List.append_assoc, List.set_append_right _ _ (by rw [List.length_take]; omega)]
  simp [Nat.min_eq_left (Nat.le_of_lt h)]
/-- the bytes with the first q less by 48 -/
def low (l : List UInt8) (q : Nat) : List Nat := dgs (l.take q) ++ (l.drop q).map fun c => c.toNat
theorem low_len (l : List UInt8) (q : Nat) : (low l q).length = l.length := by unfold low dgs; simp; omega
theorem low_top (l : List UInt8) : low l l.length = dgs l := by unfold low; simp
theorem low_get (l : List UInt8) (q : Nat) (h : q < l.length) : (low l q).getD q 0 = l[q].toNat := by
  unfold low dgs
  rw [List.getD_eq_getElem?_getD, List.getElem?_append_right (by rw [List.length_map, List.length_take]; omega)]
  simp [Nat.min_eq_left (Nat.le_of_lt h), h]
theorem low_zero (l : List UInt8) (j : Nat) (h : j < l.length) : (low l 0).getD j 0 = (l.getD j 0).toNat := by
  unfold low dgs
  simp [List.getD_eq_getElem?_getD, h]
theorem low_set (l : List UInt8) (q : Nat) (h : q < l.length) : (low l q).set q (l[q].toNat - 48) = low l (q + 1) := by
  unfold low dgs
  rw [List.drop_eq_getElem_cons h, List.take_succ_eq_append_getElem h, List.set_append_right _ _ (by rw [List.length_map, List.length_take]; omega), List.map_append, List.map_cons, List.map_cons, List.map_nil, List.append_assoc]
  rw [List.length_map, List.length_take, show q - min q l.length = 0 by omega, List.set_cons_zero]
  rfl
/-- block g starts with these bytes, and they may be written -/
def BA (w : World) (g : Nat) (l : List Nat) : Prop := g < w.heap.size ∧ ∀ j, j < l.length → w.cell? ⟨g, j, none⟩ = some (.int .u8 (l.getD j 0 : Nat)) ∧ w.frozen? ⟨g, j, none⟩ = false
theorem BA.set {w : World} {g : Nat} {l : List Nat} (h : BA w g l) (q v : Nat) (z : Int) (hz : z = (v : Int)) : BA (w.setCell ⟨g, q, none⟩ (.int .u8 z)) g (l.set q v) := by
  subst hz
  refine ⟨by simpa using h.1, fun j hj => ?_⟩
  rw [List.length_set] at hj
  obtain ⟨h1, h2⟩ := h.2 j hj
  refine ⟨?_, by simpa using h2⟩
  by_cases e : q = j
  · subst e
    rw [World.cell?_setCell_same _ _ _ h1]
    simp [List.getD_eq_getElem?_getD, hj]
  · rw [World.cell?_setCell_other _ _ _ _ (by intro h; injection h; omega), h1]
    simp [List.getD_eq_getElem?_getD, e]
theorem BA.below {w w2 : World} {g : Nat} {l : List Nat} (h : BA w g l) (hb : Below w.heap.size w w2) : BA w2 g l := by
  refine ⟨Nat.lt_of_lt_of_le h.1 hb.size, fun j hj => ?_⟩
  obtain ⟨h1, h2⟩ := h.2 j hj
  refine ⟨(hb.cell h.1).trans h1, ?_⟩
  unfold World.frozen? at h2 ⊢
  rw [hb.block g h.1]
  exact h2
theorem or_low (n c : Nat) (hn : n < 1073741824) (hc : c ≤ 1) : bits .or .i64 (2 * (n : Int)) (c : Int) = 2 * (n : Int) + c := by
  have hx : (2 * n) ||| c = 2 * n + c := by
    rcases (show c = 0 ∨ c = 1 by omega) with rfl | rfl
    · simp
    · have := Nat.two_pow_add_eq_or_of_lt (i := 1) (b := 1) (by decide) n
      simpa using this.symm
  have h1 : (BitVec.ofInt 64 (2 * (n : Int))).toNat = 2 * n := by
    rw [show 2 * (n : Int) = ((2 * n : Nat) : Int) by omega, BitVec.ofInt_natCast, BitVec.toNat_ofNat]; exact Nat.mod_eq_of_lt (by omega)
  have h2 : (BitVec.ofInt 64 (c : Int)).toNat = c := by
    rw [BitVec.ofInt_natCast, BitVec.toNat_ofNat]; exact Nat.mod_eq_of_lt (by omega)
  show IntKind.i64.wrap ((BitVec.ofInt 64 (2 * (n : Int)) ||| BitVec.ofInt 64 (c : Int)).toNat : Int) = _
  rw [BitVec.toNat_or, h1, h2, hx, IntKind.wrap_i64]
  omega
end Go.Proofs.Ytfckbkhnelgjbaa
end
/- fix.double, fix.fraction: the units that a row of digits behind the point are. -/
section
namespace Go.Proofs.Ytfckbkhnelgjbaa
open Go.ChangeShapes Go.WideShapes Go.ChangeAt Go.RowKit Go.Mem
set_option linter.unusedVariables false
set_option maxHeartbeats 2000000 in
theorem fix_double (g cap : Nat) (l : List Nat) (hd : Digs l) (hl : l.length ≤ 140737488355328) (w : World) (hin : BA w g l) :
    Calls Try.prog 90 #[.slice (some ⟨g, 0, none⟩) l.length cap] w fun e w' => e = .returned (.int .i64 ((dbl l).1 : Nat)) ∧ BA w' g (dbl l).2 ∧ Below g w w' := by
  obtain ⟨n, hn⟩ : ∃ n, n = l.length := ⟨_, rfl⟩
  rw [← hn] at hl ⊢
  have HN := Lib.hid hn
  have HD := Lib.hid hd
  have HI := Lib.hid (show BA w g (half l n) by rw [hn, half_top]; exact hin)
  have H0 := Lib.hid (show (dbl (l.drop n)).1 = 0 by rw [hn]; simp [dbl])
  have lg := hin.1
  clear hn hd hin
  go_enter Try.func90, Try.ntmps90
  go_wp2_with fail
  go_loopg [3, 4, 5] n (fun gk v3 v4 _ wx => ∃ q : Nat, q ≤ n ∧ gk = q ∧ v3 = .int .u8 ((dbl (l.drop q)).1 : Nat) ∧ v4 = .int .i64 ((q : Int) - 1) ∧ BA wx g (half l q) ∧ Below g w wx)
  case atStart => exact ⟨n, Nat.le_refl _, rfl, by rw [H0.out]; rfl, rfl, HI.out, Below.refl _ _⟩
  case round =>
    clear HI H0
    obtain ⟨q, h1, h2, rfl, rfl, hba, hb⟩ := hrel
    have HB := Lib.hid hba
    have H2 := Lib.hid h2
    clear hba h2
    rcases Nat.eq_zero_or_pos q with rfl | hq
    · have hc := dbl_carry l HD.out
      have e0 : l.drop 0 = l := rfl
      rw [e0]
      obtain ⟨C, hC⟩ : ∃ C, C = (dbl l).1 := ⟨_, rfl⟩
      rw [← hC] at hc ⊢
      have HC := Lib.hid hC
      clear hC e0
      go_wp2
      go_ret
      refine ⟨?_, ?_, hb⟩
      · exact ret_i (by rw [← HC.out])
      · have := HB.out; rwa [half_zero] at this
    · obtain ⟨L, rfl⟩ : ∃ L, q = L + 1 := ⟨q - 1, by omega⟩
      have lL : L < l.length := by rw [← HN.out]; omega
      have eL : ((L + 1 : Nat) : Int) - 1 = (L : Int) := by omega
      rw [eL]
      have hc := dbl_carry (l.drop (L + 1)) (fun d hd => HD.out d (List.mem_of_mem_drop hd))
      have hst := half_step l L lL
      have hset := half_set l L lL
      have hdd := HD.out.get L lL
      obtain ⟨e1, e2⟩ := HB.out.2 L (by rw [half_len _ _ lL]; exact lL)
      rw [half_get l L lL] at e1
      obtain ⟨C, hC⟩ : ∃ C, C = (dbl (l.drop (L + 1))).1 := ⟨_, rfl⟩
      obtain ⟨d, hdg⟩ : ∃ d, d = l.getD L 0 := ⟨_, rfl⟩
      rw [← hC] at hc hst hset ⊢
      rw [← hdg] at hst hset hdd e1
      have HS := Lib.hid hst
      have HT := Lib.hid hset
      have m1 : IntKind.u8.wrap (2 * (d : Int)) = 2 * d := by rw [IntKind.wrap_u8]; omega
      have m2 : IntKind.u8.wrap (2 * (d : Int) + C) = 2 * d + C := by rw [IntKind.wrap_u8]; omega
      clear hst hset hC hdg eL
      go_wp2
      go_roundg L
      case measure => rw [H2.out]; omega
      case rel =>
        refine ⟨L, by omega, rfl, ?_, rfl, ?_, hb.setCell (Nat.le_refl _) _⟩
        · rw [HS.out]
          show _ = Value.int .u8 (((2 * d + C) / 10 : Nat) : Int)
          congr 1
        · rw [← HT.out]
          exact HB.out.set L _ _ (by omega)
/-- what fraction gives -/
def FracPost (l : List UInt8) (e : Ending) : Prop :=
  (vd (dbls 16 (dgs l)).2 ≠ 0 ∧ e = .returned (.tuple #[.int .i64 0, .bool false])) ∨ (vd (dbls 16 (dgs l)).2 = 0 ∧ e = .returned (.tuple #[.int .i64 ((dbls 16 (dgs l)).1 : Nat), .bool true]))
set_option maxHeartbeats 2000000 in
theorem fix_fraction (s : ByteArray) (hs : s.size ≤ 140737488355328) (hd : s.data.toList.all dgB = true) (w : World) :
    Calls Try.prog 51 #[.string s] w fun e w' => FracPost s.data.toList e ∧ Below w.heap.size w w' := by
  have hcv := Lib.run_convert_string_bytes (P := Try.prog) w 9 105 5 s (u := .string) Try.underlying9 Try.underlying105 Try.underlying5
  have hB : BA (Lib.bytesWorld w 5 s) w.heap.size (low s.data.toList 0) := by
    refine ⟨by rw [Lib.bytesWorld_size]; omega, fun j hj => ?_⟩
    rw [low_len] at hj
    have hj2 : j < s.size := hj
    refine ⟨?_, ?_⟩
    · rw [Lib.bytesWorld_cell w _ s j hj2]
      rw [low_zero _ _ hj]
    · unfold World.frozen?
      rw [Lib.bytesWorld_at_new]
      simp [Lib.bytesCells]
      omega
  have hbw : Below w.heap.size w (Lib.bytesWorld w 5 s) := Joins.below_bytesWorld _ _ _ _ (Nat.le_refl _)
  obtain ⟨W1, hW1⟩ : ∃ W1, W1 = Lib.bytesWorld w 5 s := ⟨_, rfl⟩
  rw [← hW1] at hcv hB hbw
  clear hW1
  obtain ⟨l, hl⟩ : ∃ l, l = s.data.toList := ⟨_, rfl⟩
  have hn : l.length = s.size := by rw [hl]; rfl
  rw [← hl] at hd hB ⊢
  obtain ⟨n, hn2⟩ : ∃ n, n = s.size := ⟨_, rfl⟩
  obtain ⟨cp, hcp⟩ : ∃ cp, cp = grownCap w s.size 0 5 := ⟨_, rfl⟩
  rw [← hcp, ← hn2] at hcv
  rw [← hn2] at hn hs
  obtain ⟨G, hG⟩ : ∃ G, G = w.heap.size := ⟨_, rfl⟩
  rw [← hG] at hB hcv hbw ⊢
  have HGE := Lib.hid hG
  have HN := Lib.hid hn
  have HD := Lib.hid hd
  have HB := Lib.hid hB
  clear hn hd hB hl hn2 hcp hG
  go_enter Try.func51, Try.ntmps51
  go_wp2_with fail
  go_loopg [5, 13] n (fun gk _ vi wx => ∃ k : Nat, k ≤ n ∧ gk = n - k ∧ vi = .int .i64 k ∧ BA wx G (low l k) ∧ Below G w wx)
  case atStart => exact ⟨0, Nat.zero_le _, rfl, rfl, HB.out, hbw⟩
  case round =>
    clear HB hbw hcv
    obtain ⟨k, h1, h2, rfl, hba, hb⟩ := hrel
    have HB := Lib.hid hba
    have H2 := Lib.hid h2
    clear hba h2
    by_cases hlt : k < n
    · have lk : k < l.length := by rw [HN.out]; exact hlt
      obtain ⟨e1, e2⟩ := HB.out.2 k (by rw [low_len]; exact lk)
      rw [low_get l k lk] at e1
      have hset := low_set l k lk
      have hc : dgB l[k] = true := List.all_eq_true.1 HD.out _ (List.getElem_mem lk)
      obtain ⟨c, hcc⟩ : ∃ c, c = l[k] := ⟨_, rfl⟩
      rw [← hcc] at hc e1 hset
      unfold dgB at hc
      simp only [Bool.and_eq_true, decide_eq_true_eq] at hc
      obtain ⟨c1, c2⟩ := hc
      obtain ⟨z, hz⟩ : ∃ z, z = c.toNat := ⟨_, rfl⟩
      rw [← hz] at c1 c2 e1 hset
      have HT := Lib.hid hset
      have m1 : IntKind.u8.wrap ((z : Int) - 48) = z - 48 := by rw [IntKind.wrap_u8]; omega
      clear hset hcc hz lk
      go_wp2
      go_roundg (n - (k + 1))
      case measure => rw [H2.out]; omega
      case rel =>
        refine ⟨k + 1, by omega, rfl, by go_num, ?_, hb.setCell (Nat.le_refl _) _⟩
        rw [← HT.out]
        exact HB.out.set k _ _ (by omega)
    · obtain rfl : k = n := by omega
      have hb2 : BA wr G (dbls 0 (dgs l)).2 := by have := HB.out; rwa [← HN.out, low_top] at this
      have HB2 := Lib.hid hb2
      clear H2 HB hb2
      go_wp2_with fail
      go_loopg [6, 23] 16 (fun gk vn vi wx => ∃ j : Nat, j ≤ 16 ∧ gk = 16 - j ∧ vn = .int .i64 ((dbls j (dgs l)).1 : Nat) ∧ vi = .int .i64 j ∧ BA wx G (dbls j (dgs l)).2 ∧ Below G w wx)
      case atStart => exact ⟨0, by omega, rfl, rfl, rfl, HB2.out, hb⟩
      case round =>
        clear HB2 hb
        obtain ⟨j, h1, h2, rfl, rfl, hba, hb⟩ := hrel
        have HB := Lib.hid hba
        have H2 := Lib.hid h2
        clear hba h2
        have hdg := dgs_digs l HD.out
        by_cases hlt : j < 16
        · have hNl := dbls_lt j _ hdg
          have hp : 2 ^ j ≤ 2 ^ 16 := Nat.pow_le_pow_right (by decide) (by omega)
          have hcr := dbl_carry _ (dbls_digs j _ hdg)
          have hsu := dbls_succ j (dgs l)
          have cd := fix_double G cp (dbls j (dgs l)).2 (dbls_digs j _ hdg) (by rw [dbls_len, dgs_len, HN.out]; exact hs)
          rw [dbls_len, dgs_len, HN.out] at cd
          obtain ⟨N, hN⟩ : ∃ N, N = (dbls j (dgs l)).1 := ⟨_, rfl⟩
          obtain ⟨Dj, hDj⟩ : ∃ Dj, Dj = (dbls j (dgs l)).2 := ⟨_, rfl⟩
          rw [← hN] at hNl hsu ⊢
          rw [← hDj] at hcr hsu cd HB
          obtain ⟨C, hC⟩ : ∃ C, C = (dbl Dj).1 := ⟨_, rfl⟩
          rw [← hC] at hcr hsu cd
          have lN : N < 65536 := by have : (2 : Nat) ^ 16 = 65536 := rfl; omega
          have m1 := or_low N C (by omega) hcr
          have CD := Lib.hid cd
          have HS := Lib.hid hsu
          clear cd hsu hN hDj hC hNl hp hdg
          have m2 : IntKind.i64.wrap (2 * (N : Int)) = 2 * N := by rw [IntKind.wrap_i64]; omega
          have m3 : IntKind.i64.wrap ((N : Int) * 2) = 2 * N := by rw [IntKind.wrap_i64]; omega
          go_wp2_with fail
          refine (CD.out _ HB.out).mono ?_
          rintro e w2 ⟨rfl, hb2, hbl⟩
          have HB3 := Lib.hid hb2
          clear hb2
          go_wp2
          go_roundg (16 - (j + 1))
          case measure => rw [H2.out]; omega
          case rel =>
            refine ⟨j + 1, by omega, rfl, ?_, by go_num, ?_, hb.trans hbl⟩
            · rw [HS.out]
              show _ = Value.int .i64 ((2 * N + C : Nat) : Int)
              congr 1
            · rw [HS.out]
              exact HB3.out
        · obtain rfl : j = 16 := by omega
          have HF := Lib.hid (show ∀ e, ((vd (dbls 16 (dgs l)).2 ≠ 0 ∧ e = .returned (.tuple #[.int .i64 0, .bool false])) ∨ (vd (dbls 16 (dgs l)).2 = 0 ∧ e = .returned (.tuple #[.int .i64 ((dbls 16 (dgs l)).1 : Nat), .bool true]))) → FracPost l e from fun e h => h)
          have hNl := dbls_lt 16 _ hdg
          have hdj := dbls_digs 16 _ hdg
          have hln : (dbls 16 (dgs l)).2.length = k := by rw [dbls_len, dgs_len, HN.out]
          obtain ⟨N, hN⟩ : ∃ N, N = (dbls 16 (dgs l)).1 := ⟨_, rfl⟩
          obtain ⟨D, hDj⟩ : ∃ D, D = (dbls 16 (dgs l)).2 := ⟨_, rfl⟩
          rw [← hN, ← hDj] at HF
          rw [← hN] at hNl ⊢
          rw [← hDj] at HB hln hdj
          have HLN := Lib.hid hln
          have HDJ := Lib.hid hdj
          clear hN hDj hln hdj H2 hdg
          go_wp2_with fail
          go_loopg [8, 33] k (fun gk _ vi wx => ∃ j : Nat, j ≤ k ∧ gk = k - j ∧ vi = .int .i64 j ∧ (∀ i, i < j → D.getD i 0 = 0) ∧ BA wx G D ∧ Below G w wx)
          case atStart => exact ⟨0, by omega, rfl, rfl, fun i hi => by omega, HB.out, hb⟩
          case round =>
            clear HB hb
            obtain ⟨j, h1, h2, rfl, hz, hba, hb⟩ := hrel
            have HB := Lib.hid hba
            have H2 := Lib.hid h2
            have HZ := Lib.hid hz
            clear hba h2 hz
            by_cases hlt : j < k
            · obtain ⟨e1, e2⟩ := HB.out.2 j (by rw [HLN.out]; exact hlt)
              have hd1 := HDJ.out.get j (by rw [HLN.out]; exact hlt)
              obtain ⟨d, hdd⟩ : ∃ d, d = D.getD j 0 := ⟨_, rfl⟩
              rw [← hdd] at e1 hd1
              have HDD := Lib.hid hdd
              clear hdd
              by_cases d0 : d = 0
              · subst d0
                go_wp2
                go_roundg (k - (j + 1))
                case measure => rw [H2.out]; omega
                case rel =>
                  refine ⟨j + 1, by omega, rfl, by go_num, fun i hi => ?_, HB.out, hb⟩
                  by_cases e : i < j
                  · exact HZ.out i e
                  · rw [show i = j by omega]; exact HDD.out.symm
              · have t0 : ((d : Int) == 0) = false := by rw [beq_eq_false_iff_ne]; omega
                go_wp2
                go_ret2
                refine ⟨HF.out _ (Or.inl ⟨fun h => d0 ?_, rfl⟩), hb⟩
                have := (vd_zero D).1 h
                rw [HDD.out]
                by_cases hj : j < D.length
                · rw [List.getD_eq_getElem?_getD, List.getElem?_eq_getElem hj]
                  exact this _ (List.getElem_mem hj)
                · rw [HLN.out] at hj; omega
            · obtain rfl : j = k := by omega
              go_wp2
              go_ret2
              refine ⟨HF.out _ (Or.inr ⟨(vd_zero D).2 fun d hd => ?_, rfl⟩), hb⟩
              obtain ⟨i, hi, rfl⟩ := List.getElem_of_mem hd
              have := HZ.out i (by rw [← HLN.out]; exact hi)
              rwa [List.getD_eq_getElem?_getD, List.getElem?_eq_getElem hi] at this
end Go.Proofs.Ytfckbkhnelgjbaa
end
/- fix.Read. -/
section
namespace Go.Proofs.Ytfckbkhnelgjbaa
open Go.ChangeShapes Go.WideShapes Go.ChangeAt Go.RowKit Go.Mem
set_option linter.unusedVariables false
theorem extract_list (s : ByteArray) (j : Nat) : (s.extract j s.size).data.toList = s.data.toList.drop j := by
  rw [ByteArray.data_extract, Array.toList_extract]
  simp [List.take_of_length_le]
set_option maxHeartbeats 8000000 in
set_option maxRecDepth 4000 in
theorem fix_Read (s : ByteArray) (w : World) : Calls Try.prog 14 #[.string s] w fun e w' => e = .returned (.tuple #[.int .i64 (readP s.data.toList).1, .int .i64 (readP s.data.toList).2]) ∧ Below w.heap.size w w' := by
  by_cases h40 : 40 < s.data.toList.length
  · have h40' : 40 < s.size := h40
    have HF := Lib.hid (readP_large0 _ h40)
    go_enter Try.func14, Try.ntmps14
    go_wp2
    go_ret2
    exact ⟨by rw [HF.out]; rfl, Below.refl _ _⟩
  · have h40' : ¬ 40 < s.size := h40
    by_cases h0 : s.size = 0
    · have e0 : s.data.toList = [] := List.eq_nil_of_length_eq_zero h0
      have e1 : s.toList.isEmpty = true := by rw [Lib.toList_data, e0]; rfl
      have HF := Lib.hid (show readP s.data.toList = (0, 15) by rw [e0]; decide)
      clear e0 h40
      go_enter Try.func14, Try.ntmps14
      go_wp2_with fail
      go_loopg [5, 6, 7] 0 (fun gk v5 v6 v7 wx => gk = 0 ∧ v5 = .int .i64 0 ∧ v6 = .int .i64 (-1) ∧ v7 = .int .i64 0 ∧ wx = w)
      case atStart => exact ⟨rfl, rfl, rfl, rfl, rfl⟩
      case round =>
        obtain ⟨rfl, rfl, rfl, rfl, rfl⟩ := hrel
        go_wp2
        go_ret2
        exact ⟨by rw [HF.out]; rfl, Below.refl _ _⟩
    · have e0 : s.toList ≠ [] := by
        rw [Lib.toList_data]; intro h; have := congrArg List.length h; exact h0 this
      have e1 : s.toList.isEmpty = false := by simpa using e0
      have hpos : 0 < s.size := by omega
      have hhd : s.data.toList.head? = some s[0] := by
        rw [List.head?_eq_getElem?, List.getElem?_eq_getElem (show 0 < s.data.toList.length from hpos)]; rfl
      by_cases h45 : s[0].toNat = 45
      · have t0 : ((s[0].toNat : Int) == 45) = true := by simp [h45]
        have h45b : s[0] = 45 := UInt8.toNat_inj.1 h45
        have HSG := Lib.hid (show s.data.toList.head? = some 45 by rw [hhd, h45b])
        obtain ⟨R, hR⟩ : ∃ R : ByteArray, R = s.extract 1 s.size := ⟨_, rfl⟩
        have hRL : R.data.toList = restL s.data.toList := by rw [hR, extract_list]; unfold restL; rw [if_pos HSG.out]; simp
        obtain ⟨l, hl⟩ : ∃ l, l = R.data.toList := ⟨_, rfl⟩
        have HLN := Lib.hid (show l.length = R.size by rw [hl]; rfl)
        have HR := Lib.hid (show l = restL s.data.toList from hl.trans hRL)
        have HRL := Lib.hid hl.symm
        have hm40 : R.size ≤ 40 := by
          have h1 := restL_len s.data.toList
          rw [← HR.out, HLN.out] at h1
          have h2 : s.data.toList.length = s.size := rfl
          omega
        clear hRL hl
        have HRX := Lib.hid hR
        clear hR hhd h45b e0
        go_enter Try.func14, Try.ntmps14
        go_wp2_with fail
        rw [← HRX.out]
        go_loopg [5, 6, 7] R.size (fun gk v5 v6 v7 wx => ∃ (k n : Nat) (d : Int), k ≤ R.size ∧ gk = R.size - k ∧ v5 = .int .i64 n ∧ v6 = .int .i64 d ∧ v7 = .int .i64 k ∧ n ≤ 1073741824 ∧ -1 ≤ d ∧ d < (k : Int) ∧ scan l 0 0 (-1) = scan (l.drop k) k n d ∧ wx = w)
        case atStart => exact ⟨0, 0, -1, Nat.zero_le _, rfl, rfl, rfl, rfl, by omega, by omega, by omega, rfl, rfl⟩
        case round =>
          obtain ⟨k, n, d, h1, h2, rfl, rfl, rfl, hn, hd1, hd2, hsc, rfl⟩ := hrel
          have HSC := Lib.hid hsc
          have H2 := Lib.hid h2
          clear hsc h2
          by_cases hlt : k < R.size
          · have hkR : k < R.size := hlt
            have hkl : k < l.length := by rw [HLN.out]; exact hlt
            have hg : R[k] = l[k] := by
              have : l[k] = R.data.toList[k]'(by rw [HRL.out]; exact hkl) := by simp only [HRL.out]
              rw [this]; rfl
            have hst := HSC.out
            rw [List.drop_eq_getElem_cons hkl, scan_cons] at hst
            rw [← hg] at hst
            have hz256 := (R[k]).toNat_lt
            have HE := Lib.hid (show R[k] = 46 ↔ (R[k]).toNat = 46 from ⟨fun h => by rw [h]; rfl, fun h => UInt8.toNat_inj.1 h⟩)
            have HDG := Lib.hid (show dgB R[k] = (decide (48 ≤ (R[k]).toNat) && decide ((R[k]).toNat ≤ 57)) from rfl)
            have HST := Lib.hid hst
            clear hst hg hkl
            by_cases c46 : (R[k]).toNat = 46
            · have p46 : (((R[k]).toNat : Int) == 46) = true := by simp [c46]
              by_cases cd : d < 0
              · have HN := Lib.hid (HST.out.trans (if_pos ⟨HE.out.2 c46, cd⟩))
                go_wp2
                go_roundg (R.size - (k + 1))
                case measure => rw [H2.out]; omega
                case rel => exact ⟨k + 1, n, (k : Int), by omega, rfl, rfl, rfl, by go_num, by omega, by omega, by omega, by rw [HN.out]; rfl, rfl⟩
              · have HN0 := Lib.hid (HST.out.trans (if_neg (fun h => cd h.2)))
                have HN := Lib.hid (HN0.out.trans (if_pos (by rw [HDG.out]; simp; omega)))
                have HF := Lib.hid (readP_none _ h40 (by rw [← HR.out]; exact HN.out))
                go_wp2
                go_ret2
                exact ⟨by rw [HF.out]; rfl, Below.refl _ _⟩
            · have p46 : (((R[k]).toNat : Int) == 46) = false := by rw [beq_eq_false_iff_ne]; omega
              have HN0 := Lib.hid (HST.out.trans (if_neg (fun h => c46 (HE.out.1 h.1))))
              by_cases cg : 48 ≤ (R[k]).toNat ∧ (R[k]).toNat ≤ 57
              · obtain ⟨g1, g2⟩ := cg
                have HN1 := Lib.hid (HN0.out.trans (if_neg (by rw [HDG.out]; simp; omega)))
                by_cases cd : d < 0
                · have HN := Lib.hid (HN1.out.trans (if_pos cd))
                  have m1 : IntKind.u8.wrap (((R[k]).toNat : Int) - 48) = (R[k]).toNat - 48 := by rw [IntKind.wrap_u8]; omega
                  go_wp2
                  go_roundg (R.size - (k + 1))
                  case measure => rw [H2.out]; omega
                  case rel => exact ⟨k + 1, min (n * 10 + ((R[k]).toNat - 48)) 1073741824, d, by omega, rfl, by go_num, rfl, by go_num, by omega, by omega, by omega, by rw [HN.out]; rfl, rfl⟩
                · have HN := Lib.hid (HN1.out.trans (if_neg cd))
                  go_wp2
                  go_roundg (R.size - (k + 1))
                  case measure => rw [H2.out]; omega
                  case rel => exact ⟨k + 1, n, d, by omega, rfl, rfl, rfl, by go_num, by omega, by omega, by omega, by rw [HN.out]; rfl, rfl⟩
              · have HN := Lib.hid (HN0.out.trans (if_pos (by rw [HDG.out]; simp; omega)))
                have HF := Lib.hid (readP_none _ h40 (by rw [← HR.out]; exact HN.out))
                by_cases cg1 : (R[k]).toNat < 48
                · go_wp2
                  go_ret2
                  exact ⟨by rw [HF.out]; rfl, Below.refl _ _⟩
                · go_wp2
                  go_ret2
                  exact ⟨by rw [HF.out]; rfl, Below.refl _ _⟩
          · have hk : k = R.size := by omega
            have hfin : scan l 0 0 (-1) = some (n, d) := by rw [HSC.out, hk, ← HLN.out, List.drop_length, scan_nil]
            replace HSC := Lib.hid hfin
            clear hfin H2
            by_cases cd : d < 0
            · have HDN := Lib.hid (show ((R.size : Nat) : Int) = if d < 0 then (l.length : Int) else d by rw [if_pos cd, HLN.out])
              obtain ⟨B, hB⟩ : ∃ B, B = min (R.size + 1) R.size := ⟨_, rfl⟩
              have hBm : B ≤ R.size := by omega
              have hall := scan_tail l n R.size B d HSC.out HDN.out (by rw [HLN.out]; exact hB.symm)
              have hP := readP_some s.data.toList l n R.size B d h40 HR.out HSC.out HDN.out (by rw [HLN.out]; exact hB.symm)
              rw [HLN.out] at hP
              have HP := Lib.hid hP
              have HALL := Lib.hid hall
              clear hP hall
              by_cases q0 : R.size = 0
              · have t0 : ((R.size : Int) == 0) = true := by simp [q0]
                have HF := Lib.hid (HP.out.trans (if_pos (Or.inl q0)))
                clear HP HALL hB
                go_wp2
                go_ret2
                exact ⟨by rw [HF.out]; rfl, Below.refl _ _⟩
              · have t0 : ((R.size : Int) == 0) = false := by rw [beq_eq_false_iff_ne]; omega
                by_cases q1 : R.size + 1 = R.size
                · have t1 : ((R.size : Int) == (R.size : Int) - 1) = true := by rw [beq_iff_eq]; omega
                  have HF := Lib.hid (HP.out.trans (if_pos (Or.inr q1)))
                  clear HP HALL hB
                  go_wp2
                  go_ret2
                  exact ⟨by rw [HF.out]; rfl, Below.refl _ _⟩
                · have t1 : ((R.size : Int) == (R.size : Int) - 1) = false := by rw [beq_eq_false_iff_ne]; omega
                  have HP2 := Lib.hid (HP.out.trans (if_neg (by omega)))
                  obtain ⟨R2, hR2⟩ : ∃ R2 : ByteArray, R2 = ByteArray.empty := ⟨_, rfl⟩
                  have hd2 : R2.data.toList = l.drop B := by rw [hR2, show B = l.length by rw [HLN.out]; omega, List.drop_length]; rfl
                  have hl2 : R2.size ≤ R.size := by
                    have := congrArg List.length hd2
                    rw [List.length_drop, HLN.out] at this
                    have h3 : R2.size = R2.data.toList.length := rfl
                    omega
                  have cf := fix_fraction R2 (by omega) (by rw [hd2]; exact HALL.out)
                  rw [hd2] at cf
                  have hFn := frac_num (l.drop B) HALL.out
                  have hFr := frac_rest (l.drop B) HALL.out
                  have hlt := dbls_lt 16 _ (dgs_digs _ HALL.out)
                  obtain ⟨T, hT⟩ : ∃ T, T = l.drop B := ⟨_, rfl⟩
                  rw [← hT] at cf hFn hFr hlt HP2
                  obtain ⟨N, hN⟩ : ∃ N, N = (dbls 16 (dgs T)).1 := ⟨_, rfl⟩
                  have hfp := fun e (h : FracPost T e) => h
                  unfold FracPost at hfp cf
                  rw [← hN] at hFn hlt cf
                  rw [← hFn, ← hFr] at HP2
                  obtain ⟨V, hV⟩ : ∃ V, V = vd (dbls 16 (dgs T)).2 := ⟨_, rfl⟩
                  rw [← hV] at HP2 cf
                  have lN : N < 65536 := by have : (2 : Nat) ^ 16 = 65536 := rfl; omega
                  rw [hR2] at cf
                  have CF := Lib.hid cf
                  have mB : min ((R.size : Int) + 1) (R.size : Int) = (B : Int) := by omega
                  have m1 : IntKind.i64.wrap ((n : Int) * 65536) = n * 65536 := by rw [IntKind.wrap_i64]; omega
                  clear cf hfp hFn hFr hlt hT hN hV hR2 hd2 HP HALL
                  go_wp2_with fail
                  refine (CF.out _).mono ?_
                  rintro e w2 ⟨⟨hv, rfl⟩ | ⟨hv, rfl⟩, hb2⟩
                  · have HF := Lib.hid (HP2.out.trans (if_pos hv))
                    go_wp2
                    go_ret2
                    exact ⟨by rw [HF.out]; rfl, hb2⟩
                  · have HP3 := Lib.hid (HP2.out.trans (if_neg (by omega)))
                    by_cases hbig : 1099511627776 < n * 65536 + N
                    · have HF := Lib.hid (HP3.out.trans (if_pos hbig))
                      go_wp2
                      go_ret2
                      exact ⟨by rw [HF.out]; rfl, hb2⟩
                    · have HF := Lib.hid (HP3.out.trans (if_neg hbig))
                      have HSV := Lib.hid (show sgn s.data.toList (n * 65536 + N) = -((n : Int) * 65536 + N) by unfold sgn; rw [if_pos HSG.out]; omega)
                      go_wp2
                      go_ret2
                      refine ⟨?_, hb2⟩
                      rw [HF.out]
                      show _ = Ending.returned (.tuple #[.int .i64 (sgn s.data.toList (n * 65536 + N)), .int .i64 0])
                      rw [HSV.out]
                      rfl
            · obtain ⟨Dn, rfl⟩ : ∃ Dn : Nat, d = Dn := ⟨d.toNat, by omega⟩
              have HDN := Lib.hid (show ((Dn : Nat) : Int) = if (Dn : Int) < 0 then (l.length : Int) else Dn by rw [if_neg cd])
              obtain ⟨B, hB⟩ : ∃ B, B = min (Dn + 1) R.size := ⟨_, rfl⟩
              have hBm : B ≤ R.size := by omega
              have hall := scan_tail l n Dn B (Dn : Int) HSC.out HDN.out (by rw [HLN.out]; exact hB.symm)
              have hP := readP_some s.data.toList l n Dn B (Dn : Int) h40 HR.out HSC.out HDN.out (by rw [HLN.out]; exact hB.symm)
              rw [HLN.out] at hP
              have HP := Lib.hid hP
              have HALL := Lib.hid hall
              clear hP hall
              by_cases q0 : Dn = 0
              · have t0 : ((Dn : Int) == 0) = true := by simp [q0]
                have HF := Lib.hid (HP.out.trans (if_pos (Or.inl q0)))
                clear HP HALL hB
                go_wp2
                go_ret2
                exact ⟨by rw [HF.out]; rfl, Below.refl _ _⟩
              · have t0 : ((Dn : Int) == 0) = false := by rw [beq_eq_false_iff_ne]; omega
                by_cases q1 : Dn + 1 = R.size
                · have t1 : ((Dn : Int) == (R.size : Int) - 1) = true := by rw [beq_iff_eq]; omega
                  have HF := Lib.hid (HP.out.trans (if_pos (Or.inr q1)))
                  clear HP HALL hB
                  go_wp2
                  go_ret2
                  exact ⟨by rw [HF.out]; rfl, Below.refl _ _⟩
                · have t1 : ((Dn : Int) == (R.size : Int) - 1) = false := by rw [beq_eq_false_iff_ne]; omega
                  have HP2 := Lib.hid (HP.out.trans (if_neg (by omega)))
                  obtain ⟨R2, hR2⟩ : ∃ R2 : ByteArray, R2 = R.extract (min (Dn + 1) R.size) R.size := ⟨_, rfl⟩
                  have hd2 : R2.data.toList = l.drop B := by rw [hR2, ← hB, extract_list, HRL.out]
                  have hl2 : R2.size ≤ R.size := by
                    have := congrArg List.length hd2
                    rw [List.length_drop, HLN.out] at this
                    have h3 : R2.size = R2.data.toList.length := rfl
                    omega
                  have cf := fix_fraction R2 (by omega) (by rw [hd2]; exact HALL.out)
                  rw [hd2] at cf
                  have hFn := frac_num (l.drop B) HALL.out
                  have hFr := frac_rest (l.drop B) HALL.out
                  have hlt := dbls_lt 16 _ (dgs_digs _ HALL.out)
                  obtain ⟨T, hT⟩ : ∃ T, T = l.drop B := ⟨_, rfl⟩
                  rw [← hT] at cf hFn hFr hlt HP2
                  obtain ⟨N, hN⟩ : ∃ N, N = (dbls 16 (dgs T)).1 := ⟨_, rfl⟩
                  have hfp := fun e (h : FracPost T e) => h
                  unfold FracPost at hfp cf
                  rw [← hN] at hFn hlt cf
                  rw [← hFn, ← hFr] at HP2
                  obtain ⟨V, hV⟩ : ∃ V, V = vd (dbls 16 (dgs T)).2 := ⟨_, rfl⟩
                  rw [← hV] at HP2 cf
                  have lN : N < 65536 := by have : (2 : Nat) ^ 16 = 65536 := rfl; omega
                  rw [hR2] at cf
                  have CF := Lib.hid cf
                  have mB : min ((Dn : Int) + 1) (R.size : Int) = (B : Int) := by omega
                  have m1 : IntKind.i64.wrap ((n : Int) * 65536) = n * 65536 := by rw [IntKind.wrap_i64]; omega
                  clear cf hfp hFn hFr hlt hT hN hV hR2 hd2 HP HALL
                  go_wp2_with fail
                  refine (CF.out _).mono ?_
                  rintro e w2 ⟨⟨hv, rfl⟩ | ⟨hv, rfl⟩, hb2⟩
                  · have HF := Lib.hid (HP2.out.trans (if_pos hv))
                    go_wp2
                    go_ret2
                    exact ⟨by rw [HF.out]; rfl, hb2⟩
                  · have HP3 := Lib.hid (HP2.out.trans (if_neg (by omega)))
                    by_cases hbig : 1099511627776 < n * 65536 + N
                    · have HF := Lib.hid (HP3.out.trans (if_pos hbig))
                      go_wp2
                      go_ret2
                      exact ⟨by rw [HF.out]; rfl, hb2⟩
                    · have HF := Lib.hid (HP3.out.trans (if_neg hbig))
                      have HSV := Lib.hid (show sgn s.data.toList (n * 65536 + N) = -((n : Int) * 65536 + N) by unfold sgn; rw [if_pos HSG.out]; omega)
                      go_wp2
                      go_ret2
                      refine ⟨?_, hb2⟩
                      rw [HF.out]
                      show _ = Ending.returned (.tuple #[.int .i64 (sgn s.data.toList (n * 65536 + N)), .int .i64 0])
                      rw [HSV.out]
                      rfl
      · have t0 : ((s[0].toNat : Int) == 45) = false := by rw [beq_eq_false_iff_ne]; omega
        have h45b : ¬ s[0] = 45 := fun h => h45 (by rw [h]; rfl)
        have HSG := Lib.hid (show ¬ s.data.toList.head? = some 45 by rw [hhd]; simpa using h45b)
        have hRL : s.data.toList = restL s.data.toList := by unfold restL; rw [if_neg HSG.out]
        obtain ⟨l, hl⟩ : ∃ l, l = s.data.toList := ⟨_, rfl⟩
        have HLN := Lib.hid (show l.length = s.size by rw [hl]; rfl)
        have HR := Lib.hid (show l = restL s.data.toList from hl.trans hRL)
        have HRL := Lib.hid hl.symm
        have hm40 : s.size ≤ 40 := by
          have h1 := restL_len s.data.toList
          rw [← HR.out, HLN.out] at h1
          have h2 : s.data.toList.length = s.size := rfl
          omega
        clear hRL hl
        clear hhd h45b e0
        go_enter Try.func14, Try.ntmps14
        go_wp2_with fail
        go_loopg [5, 6, 7] s.size (fun gk v5 v6 v7 wx => ∃ (k n : Nat) (d : Int), k ≤ s.size ∧ gk = s.size - k ∧ v5 = .int .i64 n ∧ v6 = .int .i64 d ∧ v7 = .int .i64 k ∧ n ≤ 1073741824 ∧ -1 ≤ d ∧ d < (k : Int) ∧ scan l 0 0 (-1) = scan (l.drop k) k n d ∧ wx = w)
        case atStart => exact ⟨0, 0, -1, Nat.zero_le _, rfl, rfl, rfl, rfl, by omega, by omega, by omega, rfl, rfl⟩
        case round =>
          obtain ⟨k, n, d, h1, h2, rfl, rfl, rfl, hn, hd1, hd2, hsc, rfl⟩ := hrel
          have HSC := Lib.hid hsc
          have H2 := Lib.hid h2
          clear hsc h2
          by_cases hlt : k < s.size
          · have hkR : k < s.size := hlt
            have hkl : k < l.length := by rw [HLN.out]; exact hlt
            have hg : s[k] = l[k] := by
              have : l[k] = s.data.toList[k]'(by rw [HRL.out]; exact hkl) := by simp only [HRL.out]
              rw [this]; rfl
            have hst := HSC.out
            rw [List.drop_eq_getElem_cons hkl, scan_cons] at hst
            rw [← hg] at hst
            have hz256 := (s[k]).toNat_lt
            have HE := Lib.hid (show s[k] = 46 ↔ (s[k]).toNat = 46 from ⟨fun h => by rw [h]; rfl, fun h => UInt8.toNat_inj.1 h⟩)
            have HDG := Lib.hid (show dgB s[k] = (decide (48 ≤ (s[k]).toNat) && decide ((s[k]).toNat ≤ 57)) from rfl)
            have HST := Lib.hid hst
            clear hst hg hkl
            by_cases c46 : (s[k]).toNat = 46
            · have p46 : (((s[k]).toNat : Int) == 46) = true := by simp [c46]
              by_cases cd : d < 0
              · have HN := Lib.hid (HST.out.trans (if_pos ⟨HE.out.2 c46, cd⟩))
                go_wp2
                go_roundg (s.size - (k + 1))
                case measure => rw [H2.out]; omega
                case rel => exact ⟨k + 1, n, (k : Int), by omega, rfl, rfl, rfl, by go_num, by omega, by omega, by omega, by rw [HN.out]; rfl, rfl⟩
              · have HN0 := Lib.hid (HST.out.trans (if_neg (fun h => cd h.2)))
                have HN := Lib.hid (HN0.out.trans (if_pos (by rw [HDG.out]; simp; omega)))
                have HF := Lib.hid (readP_none _ h40 (by rw [← HR.out]; exact HN.out))
                go_wp2
                go_ret2
                exact ⟨by rw [HF.out]; rfl, Below.refl _ _⟩
            · have p46 : (((s[k]).toNat : Int) == 46) = false := by rw [beq_eq_false_iff_ne]; omega
              have HN0 := Lib.hid (HST.out.trans (if_neg (fun h => c46 (HE.out.1 h.1))))
              by_cases cg : 48 ≤ (s[k]).toNat ∧ (s[k]).toNat ≤ 57
              · obtain ⟨g1, g2⟩ := cg
                have HN1 := Lib.hid (HN0.out.trans (if_neg (by rw [HDG.out]; simp; omega)))
                by_cases cd : d < 0
                · have HN := Lib.hid (HN1.out.trans (if_pos cd))
                  have m1 : IntKind.u8.wrap (((s[k]).toNat : Int) - 48) = (s[k]).toNat - 48 := by rw [IntKind.wrap_u8]; omega
                  go_wp2
                  go_roundg (s.size - (k + 1))
                  case measure => rw [H2.out]; omega
                  case rel => exact ⟨k + 1, min (n * 10 + ((s[k]).toNat - 48)) 1073741824, d, by omega, rfl, by go_num, rfl, by go_num, by omega, by omega, by omega, by rw [HN.out]; rfl, rfl⟩
                · have HN := Lib.hid (HN1.out.trans (if_neg cd))
                  go_wp2
                  go_roundg (s.size - (k + 1))
                  case measure => rw [H2.out]; omega
                  case rel => exact ⟨k + 1, n, d, by omega, rfl, rfl, rfl, by go_num, by omega, by omega, by omega, by rw [HN.out]; rfl, rfl⟩
              · have HN := Lib.hid (HN0.out.trans (if_pos (by rw [HDG.out]; simp; omega)))
                have HF := Lib.hid (readP_none _ h40 (by rw [← HR.out]; exact HN.out))
                by_cases cg1 : (s[k]).toNat < 48
                · go_wp2
                  go_ret2
                  exact ⟨by rw [HF.out]; rfl, Below.refl _ _⟩
                · go_wp2
                  go_ret2
                  exact ⟨by rw [HF.out]; rfl, Below.refl _ _⟩
          · have hk : k = s.size := by omega
            have hfin : scan l 0 0 (-1) = some (n, d) := by rw [HSC.out, hk, ← HLN.out, List.drop_length, scan_nil]
            replace HSC := Lib.hid hfin
            clear hfin H2
            by_cases cd : d < 0
            · have HDN := Lib.hid (show ((s.size : Nat) : Int) = if d < 0 then (l.length : Int) else d by rw [if_pos cd, HLN.out])
              obtain ⟨B, hB⟩ : ∃ B, B = min (s.size + 1) s.size := ⟨_, rfl⟩
              have hBm : B ≤ s.size := by omega
              have hall := scan_tail l n s.size B d HSC.out HDN.out (by rw [HLN.out]; exact hB.symm)
              have hP := readP_some s.data.toList l n s.size B d h40 HR.out HSC.out HDN.out (by rw [HLN.out]; exact hB.symm)
              rw [HLN.out] at hP
              have HP := Lib.hid hP
              have HALL := Lib.hid hall
              clear hP hall
              by_cases q0 : s.size = 0
              · have t0 : ((s.size : Int) == 0) = true := by simp [q0]
                have HF := Lib.hid (HP.out.trans (if_pos (Or.inl q0)))
                clear HP HALL hB
                go_wp2
                go_ret2
                exact ⟨by rw [HF.out]; rfl, Below.refl _ _⟩
              · have t0 : ((s.size : Int) == 0) = false := by rw [beq_eq_false_iff_ne]; omega
                by_cases q1 : s.size + 1 = s.size
                · have t1 : ((s.size : Int) == (s.size : Int) - 1) = true := by rw [beq_iff_eq]; omega
                  have HF := Lib.hid (HP.out.trans (if_pos (Or.inr q1)))
                  clear HP HALL hB
                  go_wp2
                  go_ret2
                  exact ⟨by rw [HF.out]; rfl, Below.refl _ _⟩
                · have t1 : ((s.size : Int) == (s.size : Int) - 1) = false := by rw [beq_eq_false_iff_ne]; omega
                  have HP2 := Lib.hid (HP.out.trans (if_neg (by omega)))
                  obtain ⟨R2, hR2⟩ : ∃ R2 : ByteArray, R2 = ByteArray.empty := ⟨_, rfl⟩
                  have hd2 : R2.data.toList = l.drop B := by rw [hR2, show B = l.length by rw [HLN.out]; omega, List.drop_length]; rfl
                  have hl2 : R2.size ≤ s.size := by
                    have := congrArg List.length hd2
                    rw [List.length_drop, HLN.out] at this
                    have h3 : R2.size = R2.data.toList.length := rfl
                    omega
                  have cf := fix_fraction R2 (by omega) (by rw [hd2]; exact HALL.out)
                  rw [hd2] at cf
                  have hFn := frac_num (l.drop B) HALL.out
                  have hFr := frac_rest (l.drop B) HALL.out
                  have hlt := dbls_lt 16 _ (dgs_digs _ HALL.out)
                  obtain ⟨T, hT⟩ : ∃ T, T = l.drop B := ⟨_, rfl⟩
                  rw [← hT] at cf hFn hFr hlt HP2
                  obtain ⟨N, hN⟩ : ∃ N, N = (dbls 16 (dgs T)).1 := ⟨_, rfl⟩
                  have hfp := fun e (h : FracPost T e) => h
                  unfold FracPost at hfp cf
                  rw [← hN] at hFn hlt cf
                  rw [← hFn, ← hFr] at HP2
                  obtain ⟨V, hV⟩ : ∃ V, V = vd (dbls 16 (dgs T)).2 := ⟨_, rfl⟩
                  rw [← hV] at HP2 cf
                  have lN : N < 65536 := by have : (2 : Nat) ^ 16 = 65536 := rfl; omega
                  rw [hR2] at cf
                  have CF := Lib.hid cf
                  have mB : min ((s.size : Int) + 1) (s.size : Int) = (B : Int) := by omega
                  have m1 : IntKind.i64.wrap ((n : Int) * 65536) = n * 65536 := by rw [IntKind.wrap_i64]; omega
                  clear cf hfp hFn hFr hlt hT hN hV hR2 hd2 HP HALL
                  go_wp2_with fail
                  refine (CF.out _).mono ?_
                  rintro e w2 ⟨⟨hv, rfl⟩ | ⟨hv, rfl⟩, hb2⟩
                  · have HF := Lib.hid (HP2.out.trans (if_pos hv))
                    go_wp2
                    go_ret2
                    exact ⟨by rw [HF.out]; rfl, hb2⟩
                  · have HP3 := Lib.hid (HP2.out.trans (if_neg (by omega)))
                    by_cases hbig : 1099511627776 < n * 65536 + N
                    · have HF := Lib.hid (HP3.out.trans (if_pos hbig))
                      go_wp2
                      go_ret2
                      exact ⟨by rw [HF.out]; rfl, hb2⟩
                    · have HF := Lib.hid (HP3.out.trans (if_neg hbig))
                      have HSV := Lib.hid (show sgn s.data.toList (n * 65536 + N) = (n : Int) * 65536 + N by unfold sgn; rw [if_neg HSG.out]; omega)
                      go_wp2
                      go_ret2
                      refine ⟨?_, hb2⟩
                      rw [HF.out]
                      show _ = Ending.returned (.tuple #[.int .i64 (sgn s.data.toList (n * 65536 + N)), .int .i64 0])
                      rw [HSV.out]
                      rfl
            · obtain ⟨Dn, rfl⟩ : ∃ Dn : Nat, d = Dn := ⟨d.toNat, by omega⟩
              have HDN := Lib.hid (show ((Dn : Nat) : Int) = if (Dn : Int) < 0 then (l.length : Int) else Dn by rw [if_neg cd])
              obtain ⟨B, hB⟩ : ∃ B, B = min (Dn + 1) s.size := ⟨_, rfl⟩
              have hBm : B ≤ s.size := by omega
              have hall := scan_tail l n Dn B (Dn : Int) HSC.out HDN.out (by rw [HLN.out]; exact hB.symm)
              have hP := readP_some s.data.toList l n Dn B (Dn : Int) h40 HR.out HSC.out HDN.out (by rw [HLN.out]; exact hB.symm)
              rw [HLN.out] at hP
              have HP := Lib.hid hP
              have HALL := Lib.hid hall
              clear hP hall
              by_cases q0 : Dn = 0
              · have t0 : ((Dn : Int) == 0) = true := by simp [q0]
                have HF := Lib.hid (HP.out.trans (if_pos (Or.inl q0)))
                clear HP HALL hB
                go_wp2
                go_ret2
                exact ⟨by rw [HF.out]; rfl, Below.refl _ _⟩
              · have t0 : ((Dn : Int) == 0) = false := by rw [beq_eq_false_iff_ne]; omega
                by_cases q1 : Dn + 1 = s.size
                · have t1 : ((Dn : Int) == (s.size : Int) - 1) = true := by rw [beq_iff_eq]; omega
                  have HF := Lib.hid (HP.out.trans (if_pos (Or.inr q1)))
                  clear HP HALL hB
                  go_wp2
                  go_ret2
                  exact ⟨by rw [HF.out]; rfl, Below.refl _ _⟩
                · have t1 : ((Dn : Int) == (s.size : Int) - 1) = false := by rw [beq_eq_false_iff_ne]; omega
                  have HP2 := Lib.hid (HP.out.trans (if_neg (by omega)))
                  obtain ⟨R2, hR2⟩ : ∃ R2 : ByteArray, R2 = s.extract (min (Dn + 1) s.size) s.size := ⟨_, rfl⟩
                  have hd2 : R2.data.toList = l.drop B := by rw [hR2, ← hB, extract_list, HRL.out]
                  have hl2 : R2.size ≤ s.size := by
                    have := congrArg List.length hd2
                    rw [List.length_drop, HLN.out] at this
                    have h3 : R2.size = R2.data.toList.length := rfl
                    omega
                  have cf := fix_fraction R2 (by omega) (by rw [hd2]; exact HALL.out)
                  rw [hd2] at cf
                  have hFn := frac_num (l.drop B) HALL.out
                  have hFr := frac_rest (l.drop B) HALL.out
                  have hlt := dbls_lt 16 _ (dgs_digs _ HALL.out)
                  obtain ⟨T, hT⟩ : ∃ T, T = l.drop B := ⟨_, rfl⟩
                  rw [← hT] at cf hFn hFr hlt HP2
                  obtain ⟨N, hN⟩ : ∃ N, N = (dbls 16 (dgs T)).1 := ⟨_, rfl⟩
                  have hfp := fun e (h : FracPost T e) => h
                  unfold FracPost at hfp cf
                  rw [← hN] at hFn hlt cf
                  rw [← hFn, ← hFr] at HP2
                  obtain ⟨V, hV⟩ : ∃ V, V = vd (dbls 16 (dgs T)).2 := ⟨_, rfl⟩
                  rw [← hV] at HP2 cf
                  have lN : N < 65536 := by have : (2 : Nat) ^ 16 = 65536 := rfl; omega
                  rw [hR2] at cf
                  have CF := Lib.hid cf
                  have mB : min ((Dn : Int) + 1) (s.size : Int) = (B : Int) := by omega
                  have m1 : IntKind.i64.wrap ((n : Int) * 65536) = n * 65536 := by rw [IntKind.wrap_i64]; omega
                  clear cf hfp hFn hFr hlt hT hN hV hR2 hd2 HP HALL
                  go_wp2_with fail
                  refine (CF.out _).mono ?_
                  rintro e w2 ⟨⟨hv, rfl⟩ | ⟨hv, rfl⟩, hb2⟩
                  · have HF := Lib.hid (HP2.out.trans (if_pos hv))
                    go_wp2
                    go_ret2
                    exact ⟨by rw [HF.out]; rfl, hb2⟩
                  · have HP3 := Lib.hid (HP2.out.trans (if_neg (by omega)))
                    by_cases hbig : 1099511627776 < n * 65536 + N
                    · have HF := Lib.hid (HP3.out.trans (if_pos hbig))
                      go_wp2
                      go_ret2
                      exact ⟨by rw [HF.out]; rfl, hb2⟩
                    · have HF := Lib.hid (HP3.out.trans (if_neg hbig))
                      have HSV := Lib.hid (show sgn s.data.toList (n * 65536 + N) = (n : Int) * 65536 + N by unfold sgn; rw [if_neg HSG.out]; omega)
                      go_wp2
                      go_ret2
                      refine ⟨?_, hb2⟩
                      rw [HF.out]
                      show _ = Ending.returned (.tuple #[.int .i64 (sgn s.data.toList (n * 65536 + N)), .int .i64 0])
                      rw [HSV.out]
                      rfl
end Go.Proofs.Ytfckbkhnelgjbaa
end
