/- Sines and cosines: the program's. -/
import Derived.Test.YtehpfkmaikbjkaaNum
import Derived.Test.YtehpfkmaikbjkaaMem
import Derived.BigQuiet
import Derived.Deep.QuietTactic
namespace Go.Proofs.Ytehpfkmaikbjkaa
open Go.ChangeShapes Go.WideShapes Go.ChangeAt Go.RowKit Go.Mem

def tbl : List Int := [0, 1608, 3216, 4821, 6424, 8022, 9616, 11204, 12785, 14359, 15924, 17479, 19024,
  20557, 22078, 23586, 25080, 26558, 28020, 29466, 30893, 32303, 33692, 35062, 36410, 37736,
  39040, 40320, 41576, 42806, 44011, 45190, 46341, 47464, 48559, 49624, 50660, 51665, 52639,
  53581, 54491, 55368, 56212, 57022, 57798, 58538, 59244, 59914, 60547, 61145, 61705, 62228,
  62714, 63162, 63572, 63944, 64277, 64571, 64827, 65043, 65220, 65358, 65457, 65516, 65536]
def tb (k : Nat) : Int := tbl.getD k 65536
def tabA : Array Value := (tbl.map fun n => .int .i64 n).toArray
theorem tabA_size : tabA.size = 65 := by decide +kernel
theorem tabA_get (k : Nat) (h : k < 65) : tabA[k]? = some (.int .i64 (tb k)) := by
  have hs : tbl.length = 65 := by decide +kernel
  simp [tabA, tb, List.getElem?_eq_getElem (show k < tbl.length by omega)]

set_option maxRecDepth 100000 in
theorem trig_table (w : World) : Calls Try.prog 92 #[] w fun e w' => e = .returned (.agg tabA) ∧ Below w.heap.size w w' := by
  go_enter Try.func92, Try.ntmps92
  go_wp2_with (first
    | (refine wpList_build_as rfl _ _ rfl tabA (by kernel_rfl) ?_)
    | (refine wpList_store_abs rfl 95 (.tmp 0) (.tmp 1) rfl w.heap.size tabA rfl rfl _ _ (heap_alloc_new w _) (by kernel_rfl) (by kernel_rfl) (by kernel_rfl) ?_; intro w2 hg hb hs))
  exact bodyPost_ret (v := .agg tabA) (results_cell_row Try.results92 _ _ w.heap.size _ tabA _ _ rfl hg Try.underlying95 rfl (by kernel_rfl)) rfl ⟨rfl, ((Below.refl _ _).alloc (Nat.le_refl _) _).trans hb⟩

theorem tb_mono : ∀ k : Nat, 0 ≤ tb k ∧ tb k ≤ tb (k + 1) ∧ tb k ≤ 65536 := by
  have h : ∀ k : Fin 66, 0 ≤ tb k ∧ tb k ≤ tb (k + 1) ∧ tb k ≤ 65536 := by decide +kernel
  intro k
  by_cases hk : k < 66
  · exact h ⟨k, hk⟩
  · have hs : tbl.length = 65 := by decide +kernel
    have e : ∀ j, 65 ≤ j → tb j = 65536 := fun j hj => by simp [tb, List.getElem?_eq_none (show tbl.length ≤ j by omega)]
    rw [e k (by omega), e (k + 1) (by omega)]; omega

/-- The sine of an angle from 0 to a quarter turn. -/
def sn (a : Int) : Int := (tb (a / 256).toNat * (256 - a % 256) + tb ((a / 256).toNat + 1) * (a % 256) + 128) / 256
theorem sn_at (k : Nat) : sn (256 * k) = tb k := by
  have h1 : (256 * (k : Int)) / 256 = k := by omega
  have h2 : (256 * (k : Int)) % 256 = 0 := by omega
  simp only [sn, h1, h2, Int.toNat_natCast]; omega
theorem sn_bd (a : Int) : 0 ≤ sn a ∧ sn a ≤ 65536 := by
  have h1 := tb_mono (a / 256).toNat
  have h2 := tb_mono ((a / 256).toNat + 1)
  unfold sn
  generalize tb (a / 256).toNat = x at *
  generalize tb ((a / 256).toNat + 1) = y at *
  have hf : 0 ≤ a % 256 ∧ a % 256 < 256 := by omega
  generalize a % 256 = f at *
  have e1 : 0 ≤ x * (256 - f) := Int.mul_nonneg (by omega) (by omega)
  have e2 : 0 ≤ y * f := Int.mul_nonneg (by omega) (by omega)
  have e3 : x * (256 - f) ≤ 65536 * (256 - f) := Int.mul_le_mul_of_nonneg_right (by omega) (by omega)
  have e4 : y * f ≤ 65536 * f := Int.mul_le_mul_of_nonneg_right (by omega) (by omega)
  omega

theorem lerp (x y f : Int) : x + ((y - x) * f + 128) / 256 = (x * (256 - f) + y * f + 128) / 256 := by
  have e : x * (256 - f) + y * f + 128 = x * 256 + ((y - x) * f + 128) := by
    rw [Int.mul_sub, Int.sub_mul]; omega
  rw [e]; omega

set_option maxRecDepth 100000 in
theorem trig_first (a : Int) (h0 : 0 ≤ a) (h1 : a ≤ 16384) (w : World) : Calls Try.prog 65 #[.int .i64 a] w fun e w' => e = .returned (.int .i64 (sn a)) ∧ Below w.heap.size w w' := by
  have m1 := tb_mono (a / 256).toNat
  have m2 := tb_mono ((a / 256).toNat + 1)
  have hsn : sn a = (tb (a / 256).toNat * (256 - a % 256) + tb ((a / 256).toNat + 1) * (a % 256) + 128) / 256 := rfl
  have hx : ∃ x, x = tb (a / 256).toNat := ⟨_, rfl⟩
  have hy : ∃ y, y = tb ((a / 256).toNat + 1) := ⟨_, rfl⟩
  obtain ⟨x, hx⟩ := hx
  obtain ⟨y, hy⟩ := hy
  rw [← hx] at m1 hsn
  rw [← hy] at m1 m2 hsn
  have f1 : 0 ≤ (y - x) * (a % 256) := Int.mul_nonneg (by omega) (by omega)
  have f2 : (y - x) * (a % 256) ≤ 65536 * (a % 256) := Int.mul_le_mul_of_nonneg_right (by omega) (by omega)
  have hc : ∀ (w1 w2 : World), w2.heap[w1.heap.size]? = some (Obj.cells tabA 95 (0, 0)) → w2.cell? ⟨w1.heap.size, (a / 256).toNat, none⟩ = some (.int .i64 x) := by
    intro w1 w2 hg
    rw [cell_of_row w2 _ _ _ _ _ hg, tabA_get _ (by omega), ← hx]
  have hd : a % 256 ≠ 0 → ∀ (w1 w2 : World), w2.heap[w1.heap.size]? = some (Obj.cells tabA 95 (0, 0)) → w2.cell? ⟨w1.heap.size, (a / 256 + 1).toNat, none⟩ = some (.int .i64 y) := by
    intro hf w1 w2 hg
    rw [cell_of_row w2 _ _ _ _ _ hg, show (a / 256 + 1).toNat = (a / 256).toNat + 1 by omega, tabA_get _ (by omega), ← hy]
  have HSN := Lib.hid hsn
  clear hsn hx hy
  by_cases hf : a % 256 = 0
  · have hz : x + ((y - x) * (a % 256) + 128) / 256 = x := by rw [hf]; omega
    rw [lerp] at hz
    have HZ := Lib.hid hz
    clear hz
    have hf' : (a % 256 == 0) = true := by simp [hf]
    clear hf hd
    have HC := Lib.hid hc
    clear hc
    go_enter Try.func65, Try.ntmps65
    go_wp2_with (first
      | (go_at_call 92; refine (trig_table _).mono ?_; rintro e w1 ⟨rfl, hb⟩)
      | (refine wpList_store_abs rfl 95 (.tmp 3) (.tmp 6) rfl _ tabA rfl rfl _ _ (heap_alloc_new _ _) (by kernel_rfl) (by kernel_rfl) (by kernel_rfl) ?_; intro w2 hg hb2 hs; have c1 := HC.out _ _ hg; clear hg hs))
    go_ret
    exact ⟨ret_i (by rw [HSN.out, HZ.out]), hb.trans ((((Below.refl _ _).alloc (Nat.le_refl _) _).trans hb2).mono hb.size)⟩
  · have hd' := hd hf
    have hf' : (a % 256 == 0) = false := by simp [hf]
    have b5 : a / 256 + 1 < 65 := by omega
    clear hf hd
    have HC := Lib.hid hc
    have HD := Lib.hid hd'
    clear hc hd'
    go_enter Try.func65, Try.ntmps65
    go_wp2_with (first
      | (go_at_call 92; refine (trig_table _).mono ?_; rintro e w1 ⟨rfl, hb⟩)
      | (refine wpList_store_abs rfl 95 (.tmp 3) (.tmp 6) rfl _ tabA rfl rfl _ _ (heap_alloc_new _ _) (by kernel_rfl) (by kernel_rfl) (by kernel_rfl) ?_; intro w2 hg hb2 hs; have c1 := HC.out _ _ hg; have c2 := HD.out _ _ hg; clear hg hs))
    have b1 : 0 ≤ a / 256 := by omega
    have b2 : a / 256 < 65 := by omega
    have b3 : IntKind.i64.wrap (a / 256 + 1) = a / 256 + 1 := IntWalk.i64_in _ (by omega)
    have b4 : 0 ≤ a / 256 + 1 := by omega
    go_quiet (fail)
    go_wp2
    go_ret
    exact ⟨ret_i (by rw [HSN.out, lerp]), (below_drewN (hb.trans ((((Below.refl _ _).alloc (Nat.le_refl _) _).trans hb2).mono hb.size)) _)⟩

theorem bits_and_i64_mask (a : Int) (k : Nat) (hk : k < 63) : bits .and .i64 a ((2 ^ k - 1 : Nat) : Int) = a % ((2 ^ k : Nat) : Int) := by
  have hp : (2 : Nat) ^ k < 2 ^ 63 := Nat.pow_lt_pow_right (by omega) hk
  have hp0 : 0 < (2 : Nat) ^ k := Nat.two_pow_pos k
  have h1 : (BitVec.ofInt 64 a).toNat = (a % 18446744073709551616).toNat := by rw [BitVec.toNat_ofInt]; rfl
  have h2 : (BitVec.ofInt 64 ((2 ^ k - 1 : Nat) : Int)).toNat = 2 ^ k - 1 := by
    rw [BitVec.ofInt_natCast, BitVec.toNat_ofNat]; exact Nat.mod_eq_of_lt (by omega)
  show IntKind.i64.wrap ((BitVec.ofInt 64 a &&& BitVec.ofInt 64 ((2 ^ k - 1 : Nat) : Int)).toNat : Int) = _
  rw [BitVec.toNat_and, h1, h2, Nat.and_two_pow_sub_one_eq_mod]
  have e : (((a % 18446744073709551616).toNat % 2 ^ k : Nat) : Int) = a % ((2 ^ k : Nat) : Int) := by
    rw [Int.natCast_emod, Int.toNat_of_nonneg (by omega)]
    refine Int.emod_emod_of_dvd a ?_
    exact ⟨((2 ^ (64 - k) : Nat) : Int), by rw [← Int.natCast_mul, ← Nat.pow_add, show k + (64 - k) = 64 by omega]; rfl⟩
  rw [e]
  have hb := Int.emod_lt_of_pos a (show (0 : Int) < ((2 ^ k : Nat) : Int) by omega)
  have hn := Int.emod_nonneg a (show ((2 ^ k : Nat) : Int) ≠ 0 by omega)
  exact IntWalk.i64_in _ (by omega)
theorem bits_and_i64_65535 (a : Int) : bits .and .i64 a 65535 = a % 65536 := bits_and_i64_mask a 16 (by omega)

/-- The sine of an angle that lies in the first turn. -/
def sine0 (m : Int) : Int :=
  if m < 16384 then sn m else if m < 32768 then sn (32768 - m) else if m < 49152 then - sn (m - 32768) else - sn (65536 - m)
theorem sine0_bd (m : Int) : -65536 ≤ sine0 m ∧ sine0 m ≤ 65536 := by
  unfold sine0
  have h1 := sn_bd m; have h2 := sn_bd (32768 - m); have h3 := sn_bd (m - 32768); have h4 := sn_bd (65536 - m)
  split
  · omega
  · split
    · omega
    · split <;> omega
def sine (a : Int) : Int := sine0 (a % 65536)
def cosine (a : Int) : Int := sine0 ((a % 65536 + 16384) % 65536)
theorem sine_bd (a : Int) : -65536 ≤ sine a ∧ sine a ≤ 65536 := sine0_bd _
theorem cosine_bd (a : Int) : -65536 ≤ cosine a ∧ cosine a ≤ 65536 := sine0_bd _

theorem trig_Sin0 (a m : Int) (h0 : 0 ≤ m) (h1 : m < 65536) (hb : bits .and .i64 a 65535 = m) (w : World) : Calls Try.prog 14 #[.int .i64 a] w fun e w' => e = .returned (.int .i64 (sine0 m)) ∧ Below w.heap.size w w' := by
  by_cases c1 : m < 16384
  · have e1 : m % 16384 = m := by omega
    have hs : sine0 m = sn m := by simp [sine0, c1]
    have HS := Lib.hid hs
    clear hs
    go_enter Try.func14, Try.ntmps14
    go_wp2_with (go_at_call 65; refine (trig_first _ (by omega) (by omega) _).mono ?_; rintro e w1 ⟨rfl, hb1⟩)
    go_ret
    exact ⟨ret_i HS.out.symm, hb1⟩
  by_cases c2 : m < 32768
  · have e1 : m % 16384 = m - 16384 := by omega
    have hs : sine0 m = sn (16384 - (m - 16384)) := by rw [show 16384 - (m - 16384) = 32768 - m by omega]; simp [sine0, c1, c2]
    have HS := Lib.hid hs
    clear hs
    go_enter Try.func14, Try.ntmps14
    go_wp2_with (go_at_call 65; refine (trig_first _ (by omega) (by omega) _).mono ?_; rintro e w1 ⟨rfl, hb1⟩)
    go_ret
    exact ⟨ret_i HS.out.symm, hb1⟩
  by_cases c3 : m < 49152
  · have e1 : m % 16384 = m - 32768 := by omega
    have hs : sine0 m = - sn (m - 32768) := by simp [sine0, c1, c2, c3]
    have hn := sn_bd (m - 32768)
    have HS := Lib.hid hs
    clear hs
    go_enter Try.func14, Try.ntmps14
    go_wp2_with (go_at_call 65; refine (trig_first _ (by omega) (by omega) _).mono ?_; rintro e w1 ⟨rfl, hb1⟩)
    go_ret
    exact ⟨ret_i HS.out.symm, hb1⟩
  · have e1 : m % 16384 = m - 49152 := by omega
    have hs : sine0 m = - sn (16384 - (m - 49152)) := by rw [show 16384 - (m - 49152) = 65536 - m by omega]; simp [sine0, c1, c2, c3]
    have hn := sn_bd (16384 - (m - 49152))
    have HS := Lib.hid hs
    clear hs
    go_enter Try.func14, Try.ntmps14
    go_wp2_with (go_at_call 65; refine (trig_first _ (by omega) (by omega) _).mono ?_; rintro e w1 ⟨rfl, hb1⟩)
    go_ret
    exact ⟨ret_i HS.out.symm, hb1⟩

theorem trig_Sin (a : Int) (w : World) : Calls Try.prog 14 #[.int .i64 a] w fun e w' => e = .returned (.int .i64 (sine a)) ∧ Below w.heap.size w w' :=
  trig_Sin0 a (a % 65536) (by omega) (by omega) (bits_and_i64_65535 a) w

theorem trig_Cos (a : Int) (w : World) : Calls Try.prog 16 #[.int .i64 a] w fun e w' => e = .returned (.int .i64 (cosine a)) ∧ Below w.heap.size w w' := by
  have hb := bits_and_i64_65535 a
  have hs : cosine a = sine (a % 65536 + 16384) := rfl
  obtain ⟨m, hm⟩ : ∃ m, m = a % 65536 := ⟨_, rfl⟩
  rw [← hm] at hb hs
  have h0 : 0 ≤ m := by omega
  have h1 : m < 65536 := by omega
  clear hm
  have HS := Lib.hid hs
  clear hs
  go_enter Try.func16, Try.ntmps16
  go_wp2_with (go_at_call 14; refine (trig_Sin _ _).mono ?_; rintro e w1 ⟨rfl, hb1⟩)
  go_ret
  exact ⟨ret_i HS.out.symm, hb1⟩
end Go.Proofs.Ytehpfkmaikbjkaa
