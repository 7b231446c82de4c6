/- The statement TrigAngles' walk. -/
import Derived.Test.YtehpfkmaikbjkaaAngle
namespace Go.Proofs.Ytehpfkmaikbjkaa
open Go.ChangeShapes Go.WideShapes Go.ChangeAt Go.RowKit Go.Mem

/-- n is the angle of the vector (x, y). -/
def IsAtan (x y n : Int) : Prop := (x = 0 ∧ y = 0 ∧ n = 0) ∨ (¬ (x = 0 ∧ y = 0) ∧ ∃ r, n = (rot x y).1 * 16384 + r ∧ IsAng (rot x y).2.1 (rot x y).2.2 r)
theorem AtanPost.val {x y : Int} {w : World} {e : Ending} {w' : World} (h : AtanPost x y w e w') : ∃ n, e = .returned (.int .i64 n) ∧ IsAtan x y n ∧ Below w.heap.size w w' := by
  obtain ⟨h | ⟨h, r, he, ha⟩, hb⟩ := h
  · exact ⟨0, h.2.2, Or.inl ⟨h.1, h.2.1, rfl⟩, hb⟩
  · exact ⟨_, he, Or.inr ⟨h, r, rfl, ha⟩, hb⟩
theorem rot_pos (x y : Int) : 0 ≤ (rot x y).2.1 ∧ 0 ≤ (rot x y).2.2 := by
  unfold rot
  split
  · exact ⟨by simp; omega, by simp; omega⟩
  · split
    · exact ⟨by simp; omega, by simp; omega⟩
    · split
      · exact ⟨by simp; omega, by simp; omega⟩
      · exact ⟨by simp; omega, by simp; omega⟩
theorem IsAtan.unique {x y n m : Int} (h : IsAtan x y n) (k : IsAtan x y m) : n = m := by
  rcases h with ⟨h1, h2, h3⟩ | ⟨h1, r, h2, h3⟩
  · rcases k with ⟨k1, k2, k3⟩ | ⟨k1, s, k2, k3⟩
    · omega
    · exact absurd ⟨h1, h2⟩ k1
  · rcases k with ⟨k1, k2, k3⟩ | ⟨k1, s, k2, k3⟩
    · exact absurd ⟨k1, k2⟩ h1
    · have hp := rot_pos x y
      have := IsAng_unique _ _ r s hp.1 hp.2 h3 k3
      omega
theorem atan_one : IsAtan (lim 1) (lim 1) 8192 := by
  rw [lim_id 1 (by omega) (by omega)]
  have hr : rot 1 1 = (0, 1, 1) := by unfold rot; rw [if_pos (by omega)]
  refine Or.inr ⟨by omega, 8192, by rw [hr]; rfl, ?_⟩
  rw [hr]
  have h1 : sn 8192 * 1 ≤ sn (16384 - 8192) * 1 := by decide +kernel
  have h2 : ¬ sn (8192 + 1) * 1 ≤ sn (16384 - (8192 + 1)) * 1 := by decide +kernel
  exact ⟨by omega, by omega, h1, Or.inr h2⟩

theorem law_TrigAngles (y x : Int) (w : World) : Calls Try.prog 6 #[.int .i64 y, .int .i64 x] w fun e w' => e = .returned (.bool true) ∧ Below w.heap.size w w' := by
  go_enter Try.func6, Try.ntmps6
  go_wp2_with (fail)
  refine (trig_Atan 1 1 _).mono ?_
  rintro e w1 h1
  obtain ⟨n, rfl, hn, hb1⟩ := h1.val
  obtain rfl := IsAtan.unique hn atan_one
  clear hn h1
  go_wp2_with (fail)
  refine (trig_Atan y x _).mono ?_
  rintro e w2 h2
  obtain ⟨n, rfl, hn, hb2⟩ := h2.val
  have HN := Lib.hid hn
  clear hn h2
  go_wp2_with (fail)
  refine (ref_Angle y x _).mono ?_
  rintro e w3 h3
  obtain ⟨m, rfl, hm, hb3⟩ := h3.val
  obtain rfl := IsAtan.unique HN.out hm
  clear hm h3
  go_wp2
  go_ret
  exact ⟨rfl, bt (bt hb1 hb2) hb3⟩
end Go.Proofs.Ytehpfkmaikbjkaa
