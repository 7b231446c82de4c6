/- Sums of natural numbers as lists of digits; the doubling of a number up to 2^30: plain lemmas. No program is named here. -/
import Derived.Test.YtehpfkmaikbjkaaNatP
namespace Go.Nb
theorem nval_take_one (l : List Int) (k : Nat) : nval (l.take (k + 1)) = nval (l.take k) + pw k * l.getD k 0 := by
  by_cases h : k < l.length
  · exact nval_take_succ l k h
  · rw [List.take_of_length_le (by omega), List.take_of_length_le (by omega), List.getD_eq_getElem?_getD, List.getElem?_eq_none (by omega)]; simp
/-- One step of 'plus'. -/
theorem plus_step (out zs ys : List Int) (i : Nat) (n : Int) (hi : i < out.length) (hod : Digs out) (hzd : Digs zs) (hyd : Digs ys) (h1 : out.getD i 0 ≤ 1) (hz : ∀ j, i < j → out.getD j 0 = 0)
    (hv : nval out = nval (zs.take i) + nval (ys.take i)) (hn : n = out.getD i 0 + zs.getD i 0 + ys.getD i 0) (hlast : i + 1 = out.length → zs.getD i 0 = 0 ∧ ys.getD i 0 = 0) :
    0 ≤ n ∧ n < 65536 ∧
    (n < 32768 → Digs (out.set i (n % 32768)) ∧ (out.set i (n % 32768)).getD (i + 1) 0 ≤ 1 ∧ (∀ j, i + 1 < j → (out.set i (n % 32768)).getD j 0 = 0) ∧ nval (out.set i (n % 32768)) = nval (zs.take (i + 1)) + nval (ys.take (i + 1))) ∧
    (32768 ≤ n → i + 1 < out.length ∧ (out.set i (n % 32768)).getD (i + 1) 0 = 0 ∧ Digs ((out.set i (n % 32768)).set (i + 1) 1) ∧ ((out.set i (n % 32768)).set (i + 1) 1).getD (i + 1) 0 ≤ 1 ∧ (∀ j, i + 1 < j → ((out.set i (n % 32768)).set (i + 1) 1).getD j 0 = 0) ∧ nval ((out.set i (n % 32768)).set (i + 1) 1) = nval (zs.take (i + 1)) + nval (ys.take (i + 1))) := by
  have b1 := hod.getD i
  have b2 := hzd.getD i
  have b3 := hyd.getD i
  have hset : ∀ (j : Nat) (v : Int), i < j → (out.set i v).getD j 0 = out.getD j 0 := fun j v hj => by
    rw [List.getD_eq_getElem?_getD, List.getElem?_set_ne (by omega), ← List.getD_eq_getElem?_getD]
  have hz1 := hz (i + 1) (by omega)
  have e1 := nval_take_one zs i
  have e2 := nval_take_one ys i
  have e3 := nval_set out i (n % 32768) hi
  have hp := pw_pos i
  refine ⟨by omega, by omega, fun h => ⟨hod.set i (by omega), by rw [hset _ _ (by omega)]; omega, fun j hj => by rw [hset _ _ (by omega)]; exact hz j (by omega), ?_⟩, fun h => ?_⟩
  · rw [e3, e1, e2, hv, show n % 32768 - out.getD i 0 = zs.getD i 0 + ys.getD i 0 by omega, Int.add_mul, Int.mul_comm (pw i), Int.mul_comm (pw i)]; omega
  · have hl : i + 1 < out.length := by
      rcases Nat.lt_or_ge (i + 1) out.length with h' | h'
      · exact h'
      · obtain ⟨q1, q2⟩ := hlast (by omega)
        omega
    have e4 := nval_set (out.set i (n % 32768)) (i + 1) 1 (by rw [List.length_set]; exact hl)
    refine ⟨hl, by rw [hset _ _ (by omega), hz1], (hod.set i (by omega)).set _ (by omega), ?_, fun j hj => ?_, ?_⟩
    · rw [List.getD_eq_getElem?_getD, List.getElem?_set_self (by rw [List.length_set]; exact hl)]; decide
    · rw [List.getD_eq_getElem?_getD, List.getElem?_set_ne (by omega), ← List.getD_eq_getElem?_getD, hset _ _ (by omega)]; exact hz j (by omega)
    · rw [e4, e3, hset _ _ (by omega), hz1, e1, e2, hv, pw_succ, show n % 32768 = out.getD i 0 + zs.getD i 0 + ys.getD i 0 - 32768 by omega]
      have q : (out.getD i 0 + zs.getD i 0 + ys.getD i 0 - 32768 - out.getD i 0) * pw i = zs.getD i 0 * pw i + ys.getD i 0 * pw i - 32768 * pw i := by
        rw [show out.getD i 0 + zs.getD i 0 + ys.getD i 0 - 32768 - out.getD i 0 = zs.getD i 0 + ys.getD i 0 - 32768 by omega, Int.sub_mul, Int.add_mul]
      rw [q, Int.mul_comm (pw i) (zs.getD i 0), Int.mul_comm (pw i) (ys.getD i 0)]; omega
/-- How often a number is doubled till it is 2^30. -/
def up : Nat → Int → Nat
  | 0, _ => 0
  | f + 1, m => if m < 1073741824 then up f (2 * m) + 1 else 0
theorem up_stop {f : Nat} {m : Int} (h : 1073741824 ≤ m) : up f m = 0 := by
  cases f with
  | zero => rfl
  | succ f => rw [up, if_neg (by omega)]
/-- The relation of a loop that doubles: j rounds are done. -/
def Upto (m0 m : Int) (j : Nat) : Prop := j ≤ 30 ∧ 2 ^ j ≤ m ∧ m = m0 * 2 ^ j ∧ up (30 - j) m + j = up 30 m0 ∧ (m < 2147483648 ∨ j = 0)
theorem upto_start {m0 : Int} (h : 1 ≤ m0) : Upto m0 m0 0 := ⟨by omega, by omega, by simp, by simp, .inr rfl⟩
theorem upto_step {m0 m : Int} {j : Nat} (h : Upto m0 m j) (hm : m < 1073741824) : Upto m0 (2 * m) (j + 1) := by
  obtain ⟨h1, h2, h3, h4, h5⟩ := h
  have hj : j < 30 := by
    rcases Nat.lt_or_ge j 30 with h | h
    · exact h
    · have : j = 30 := by omega
      subst this; omega
  refine ⟨hj, ?_, ?_, ?_, .inl (by omega)⟩
  · rw [Int.pow_succ]; omega
  · rw [h3, Int.pow_succ]
    rw [Int.mul_comm 2, Int.mul_assoc]
  · rw [show 30 - j = (30 - (j + 1)) + 1 by omega, up, if_pos hm] at h4
    omega
theorem upto_stop {m0 m : Int} {j : Nat} (h : Upto m0 m j) (hm : 1073741824 ≤ m) : j = up 30 m0 := by
  obtain ⟨h1, h2, h3, h4, h5⟩ := h
  rw [up_stop hm] at h4; omega
end Go.Nb
