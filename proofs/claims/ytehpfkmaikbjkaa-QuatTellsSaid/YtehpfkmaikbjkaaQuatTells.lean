/- The law QuatTells. -/
import Derived.Test.YtehpfkmaikbjkaaBetween
import Derived.Test.YtehpfkmaikbjkaaOpen
namespace Go.Proofs.Ytehpfkmaikbjkaa
open Go.ChangeShapes Go.WideShapes Go.ChangeAt Go.RowKit Go.Mem Go.Nb
set_option linter.unusedVariables false
theorem keep8 {w w1 w2 : World} {A1 A2 A3 A4 A5 A6 A7 A8 : Addr} {v1 v2 v3 v4 v5 v6 v7 v8 : Value}
    (h : w1.cell? A1 = some v1 ∧ w1.cell? A2 = some v2 ∧ w1.cell? A3 = some v3 ∧ w1.cell? A4 = some v4 ∧ w1.cell? A5 = some v5 ∧ w1.cell? A6 = some v6 ∧ w1.cell? A7 = some v7 ∧ w1.cell? A8 = some v8 ∧ Below w.heap.size w w1) (hb : Below w1.heap.size w1 w2) :
    w2.cell? A1 = some v1 ∧ w2.cell? A2 = some v2 ∧ w2.cell? A3 = some v3 ∧ w2.cell? A4 = some v4 ∧ w2.cell? A5 = some v5 ∧ w2.cell? A6 = some v6 ∧ w2.cell? A7 = some v7 ∧ w2.cell? A8 = some v8 ∧ Below w.heap.size w w2 := by
  obtain ⟨h1, h2, h3, h4, h5, h6, h7, h8, h9⟩ := h
  exact ⟨keepc hb h1, keepc hb h2, keepc hb h3, keepc hb h4, keepc hb h5, keepc hb h6, keepc hb h7, keepc hb h8, bt h9 hb⟩
theorem last8 {a b c d e f g h i : Prop} (x : a ∧ b ∧ c ∧ d ∧ e ∧ f ∧ g ∧ h ∧ i) : i := x.2.2.2.2.2.2.2.2
theorem ijk : mulq 0 65536 0 0 0 0 65536 0 0 = 0 ∧ mulq 0 65536 0 0 0 0 65536 0 1 = 0 ∧ mulq 0 65536 0 0 0 0 65536 0 2 = 0 ∧ mulq 0 65536 0 0 0 0 65536 0 3 = 65536 := by decide +kernel
set_option maxHeartbeats 16000000 in
set_option maxRecDepth 100000 in
theorem law_QuatTells (a b c d p q r s t : Int) (w : World) : Calls Try.prog 12 #[.agg #[.int .i64 a, .int .i64 b, .int .i64 c, .int .i64 d], .agg #[.int .i64 p, .int .i64 q, .int .i64 r, .int .i64 s], .int .i64 t] w fun e w' => e = .returned (.bool true) ∧ Below w.heap.size w w' := by
  have IJK := Lib.hid ijk
  go_enter Try.func12, Try.ntmps12
  go_wp2_with fail
  obtain ⟨W0, hW0⟩ : ∃ W0, W0 = (((w.alloc (.cells #[.int .i64 a, .int .i64 b, .int .i64 c, .int .i64 d] 62)).alloc (.cells #[.int .i64 p, .int .i64 q, .int .i64 r, .int .i64 s] 62)).alloc (.cells #[.int .i64 0, .int .i64 65536, .int .i64 0, .int .i64 0] 62)).alloc (.cells #[.int .i64 0, .int .i64 0, .int .i64 0, .int .i64 65536] 62) := ⟨_, rfl⟩
  have f1 : Four 62 W0 w.heap.size a b c d := by rw [hW0]; exact (((four_new _ _ _ _ _ _).alloc _).alloc _).alloc _
  have f2 : Four 62 W0 (w.heap.size + 1) p q r s := by rw [hW0]; exact ((four_new2 _ _ _ _ _ _ _).alloc _).alloc _
  have f3 : Four 62 W0 (w.heap.size + 1 + 1) 0 65536 0 0 := by
    have := (four_new2 62 (w.alloc (.cells #[.int .i64 a, .int .i64 b, .int .i64 c, .int .i64 d] 62)) (.cells #[.int .i64 p, .int .i64 q, .int .i64 r, .int .i64 s] 62) 0 65536 0 0).alloc (.cells #[.int .i64 0, .int .i64 0, .int .i64 0, .int .i64 65536] 62)
    rw [World.size_alloc] at this; rw [hW0]; exact this
  have f4 : Four 62 W0 (w.heap.size + 1 + 1 + 1) 0 0 0 65536 := by
    have := four_new2 62 ((w.alloc (.cells #[.int .i64 a, .int .i64 b, .int .i64 c, .int .i64 d] 62)).alloc (.cells #[.int .i64 p, .int .i64 q, .int .i64 r, .int .i64 s] 62)) (.cells #[.int .i64 0, .int .i64 65536, .int .i64 0, .int .i64 0] 62) 0 0 0 65536
    rw [World.size_alloc, World.size_alloc] at this; rw [hW0]; exact this
  have hB : Below w.heap.size w W0 := by rw [hW0]; exact ((((Below.refl _ _).alloc (Nat.le_refl _) _).alloc (by simp) _).alloc (by simp; omega) _).alloc (by simp; omega) _
  rw [← hW0]
  clear hW0
  have a0 := f3.c0
  have a1 := f3.c1
  have a2 := f3.c2
  have a3 := f3.c3
  have b0 := f4.c0
  have b1 := f4.c1
  have b2 := f4.c2
  have b3 := f4.c3
  have F1 := Lib.hid f1
  have F2 := Lib.hid f2
  have hbr := Below.refl W0.heap.size W0
  clear f1 f2 f3 f4
  go_region_held3 (fun w' => w'.cell? ⟨w.heap.size + 1 + 1, 0, none⟩ = some (.int .i64 0) ∧ w'.cell? ⟨w.heap.size + 1 + 1, 1, none⟩ = some (.int .i64 65536) ∧ w'.cell? ⟨w.heap.size + 1 + 1, 2, none⟩ = some (.int .i64 0) ∧ w'.cell? ⟨w.heap.size + 1 + 1, 3, none⟩ = some (.int .i64 0) ∧ w'.cell? ⟨w.heap.size + 1 + 1 + 1, 0, none⟩ = some (.int .i64 0) ∧ w'.cell? ⟨w.heap.size + 1 + 1 + 1, 1, none⟩ = some (.int .i64 0) ∧ w'.cell? ⟨w.heap.size + 1 + 1 + 1, 2, none⟩ = some (.int .i64 0) ∧ w'.cell? ⟨w.heap.size + 1 + 1 + 1, 3, none⟩ = some (.int .i64 65536) ∧ Below W0.heap.size W0 w')
    (first | exact ⟨a0, a1, a2, a3, b0, b1, b2, b3, hbr.drew⟩ | assumption | exact keep8 (by assumption) (by assumption))
    ((go_at_call 53; refine (quat_Mul _ _ _ _ _ _ _ _ _).mono ?_; rintro e w2 ⟨rfl, hb2⟩; rw [IJK.out.1, IJK.out.2.1, IJK.out.2.2.1, IJK.out.2.2.2]))
  have hBn : Below W0.heap.size W0 w2 := last8 (by assumption)
  have F12 : Four 62 w2 w.heap.size a b c d := heap_below F1.out hBn
  have F22 : Four 62 w2 (w.heap.size + 1) p q r s := heap_below F2.out hBn
  have hB2 := bt hB hBn
  have c0 := F12.c0
  have c1 := F12.c1
  have c2 := F12.c2
  have c3 := F12.c3
  have d0 := F22.c0
  have d1 := F22.c1
  have d2 := F22.c2
  have d3 := F22.c3
  rename_i hHeld
  clear hHeld hBn F12 F22 hB a0 a1 a2 a3 b0 b1 b2 b3 hbr hb2 F1 F2 IJK
  go_wp2_with fail
  go_region_held3 (fun w' => w'.cell? ⟨w.heap.size, 0, none⟩ = some (.int .i64 a) ∧ w'.cell? ⟨w.heap.size, 1, none⟩ = some (.int .i64 b) ∧ w'.cell? ⟨w.heap.size, 2, none⟩ = some (.int .i64 c) ∧ w'.cell? ⟨w.heap.size, 3, none⟩ = some (.int .i64 d) ∧ w'.cell? ⟨w.heap.size + 1, 0, none⟩ = some (.int .i64 p) ∧ w'.cell? ⟨w.heap.size + 1, 1, none⟩ = some (.int .i64 q) ∧ w'.cell? ⟨w.heap.size + 1, 2, none⟩ = some (.int .i64 r) ∧ w'.cell? ⟨w.heap.size + 1, 3, none⟩ = some (.int .i64 s) ∧ Below w.heap.size w w')
    (first | exact ⟨c0, c1, c2, c3, d0, d1, d2, d3, hB2.drew⟩ | assumption | exact keep8 (by assumption) (by assumption))
    ((first
      | (go_at_call 53; refine (quat_Mul _ _ _ _ _ _ _ _ _).mono ?_; rintro e w5 ⟨rfl, hb5⟩)
      | (go_at_call 54; refine (ref_Times _ _ _ _ _ _ _ _ _).mono ?_; rintro e w5 ⟨rfl, hb5⟩)
      | (go_at_call 55; refine (quat_Back _ _ _ _ _).mono ?_; rintro e w5 ⟨rfl, hb5⟩)
      | (go_at_call 56; refine (ref_Turnless _ _ _ _ _).mono ?_; rintro e w5 ⟨rfl, hb5⟩)
      | (go_at_call 57; refine (quat_Unit _ _ _ _ _).mono ?_; rintro e w5 ⟨rfl, hb5⟩)
      | (go_at_call 58; refine (ref_Unit4 _ _ _ _ _).mono ?_; rintro e w5 ⟨rfl, hb5⟩)
      | (go_at_call 59; refine (quat_Blend _ _ _ _ _ _ _ _ _ _).mono ?_; rintro e w5 ⟨rfl, hb5⟩)
      | (go_at_call 60; refine (ref_Between _ _ _ _ _ _ _ _ _ _).mono ?_; rintro e w5 ⟨rfl, hb5⟩)))
  all_goals
    go_wp2
    go_ret
    exact ⟨rfl, last8 (by assumption)⟩
end Go.Proofs.Ytehpfkmaikbjkaa
