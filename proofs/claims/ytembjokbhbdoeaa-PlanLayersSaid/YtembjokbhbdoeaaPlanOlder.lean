/- The law's systems older, and its fact layered. -/
import Derived.Test.YtembjokbhbdoeaaPlanLay
import Derived.Test.YtembjokbhbdoeaaPlanLaw
import Derived.Test.YtembjokbhbdoeaaPlanRi
namespace Go.Proofs.Ytembjokbhbdoeaa
open Go.ChangeShapes Go.WideShapes Go.ChangeAt Go.RowKit Go.Mem
set_option linter.unusedVariables false
theorem five (w : World) (o1 o2 o3 o4 o5 : Obj) : (((((w.alloc o1).alloc o2).alloc o3).alloc o4).alloc o5).heap[w.heap.size]? = some o1 ∧ (((((w.alloc o1).alloc o2).alloc o3).alloc o4).alloc o5).heap[w.heap.size + 1 + 1 + 1]? = some o4 ∧ Below w.heap.size w (((((w.alloc o1).alloc o2).alloc o3).alloc o4).alloc o5) := by
  refine ⟨heap_keep (heap_keep (heap_keep (heap_keep (heap_alloc_new w o1) o2) o3) o4) o5, ?_, ?_⟩
  · have := heap_keep (heap_alloc_new (((w.alloc o1).alloc o2).alloc o3) o4) o5
    simpa using this
  · exact (((((Below.refl w.heap.size w).alloc (Nat.le_refl _) o1).alloc (by simp) o2).alloc (by simp; omega) o3).alloc (by simp; omega) o4).alloc (by simp; omega) o5
set_option maxHeartbeats 4000000 in
theorem older_w (w : World) : Calls Try.prog 7 #[] w fun e w' => (∃ v, e = .returned v ∧ SysIn w' v ⟨[], [0]⟩) ∧ Below w.heap.size w w' := by
  go_enter Try.func7, Try.ntmps7
  go_wp2
  obtain ⟨f1, f4, fb⟩ := five w (.cells #[.string ⟨#[111, 108, 100, 101, 114]⟩, .slice (some ⟨w.heap.size + 1 + 1, 0, none⟩) 1 1, .slice none 0 0, .slice none 0 0, .slice (some ⟨w.heap.size + 1 + 1 + 1, 0, none⟩) 1 1, .slice (some ⟨w.heap.size + 1 + 1 + 1 + 1, 0, none⟩) 2 2, .slice none 0 0] 30 (0, 0)) _ _ (.cells #[.int .i64 0] 3 (0, 0)) _
  refine bodyPost_ret (results_cell_row Try.results7 _ _ (w.heap.size) 30 _ (0, 0) _ rfl f1 Try.underlying30 rfl (by kernel_rfl)) rfl ⟨⟨_, rfl, ?_⟩, fb⟩
  refine ⟨_, _, _, _, _, _, _, none, 0, some ⟨w.heap.size + 1 + 1 + 1, 0, none⟩, 1, _, _, _, _, _, _, rfl, fun h => (by simp at h), RowB.ints (k := .i64) (zs := [0]) (show RowB _ _ 3 .i64 [0] from f4), by decide, by decide⟩
def oldV : SysV := ⟨[], [0]⟩
theorem lay_two : (layL (depL [oldV, oldV] 2) 2).length = 2 := by decide
set_option maxHeartbeats 4000000 in
theorem layered_w (w : World) : Calls Try.prog 5 #[] w fun e w' => e = .returned (.bool true) ∧ Below w.heap.size w w' := by
  have OL := Lib.hid older_w
  go_enter Try.func5, Try.ntmps5
  go_wp2_with fail
  refine (OL.out w).mono ?_
  rintro e w1 ⟨⟨v1, rfl, hs1⟩, hb1⟩
  go_wp2_with fail
  refine (OL.out w1).mono ?_
  rintro e w2 ⟨⟨v2, rfl, hs2⟩, hb2⟩
  have hs1 := hs1.below hb2
  have hb := bt hb1 hb2
  obtain ⟨s0, a1, n1, c1, a2, n2, c2, a3, c3, a4, c4, a5, n5, c5, a6, n6, c6, rfl, r1, r2, r3, r4⟩ := hs1
  obtain ⟨t0, b1, m1, d1, b2, m2, d2, b3, d3, b4, d4, b5, m5, d5, b6, m6, d6, rfl, q1, q2, q3, q4⟩ := hs2
  simp only [List.length_nil, List.length_singleton]
  obtain ⟨O, hO⟩ : ∃ O : Obj, O = .cells #[.string s0, .slice a1 n1 c1, .slice a2 n2 c2, .slice a3 0 c3, .slice a4 1 c4, .slice a5 n5 c5, .slice a6 n6 c6, .string t0, .slice b1 m1 d1, .slice b2 m2 d2, .slice b3 0 d3, .slice b4 1 d4, .slice b5 m5 d5, .slice b6 m6 d6] 30 (0, 0) := ⟨_, rfl⟩
  have hrow := heap_alloc_new w2 O
  have hbO := (Below.refl w2.heap.size w2).alloc (Nat.le_refl _) O
  rw [hO] at hrow
  have hsl : SlAt 7 SysAt (w2.alloc O) (some ⟨w2.heap.size, 0, none⟩) [oldV, oldV] := fun _ => ⟨_, rfl, by simp, fun i hi => by
    rw [Addr.add_lit, Nat.zero_add]
    have hi2 : i < 2 := hi
    rw [hO] at hbO ⊢
    rcases (show i = 0 ∨ i = 1 by omega) with rfl | rfl
    · exact ⟨s0, a1, n1, c1, a2, n2, c2, a3, c3, a4, c4, a5, n5, c5, a6, n6, c6, ⟨cell_of_row _ _ 0 _ _ _ hrow, cell_of_row _ _ 1 _ _ _ hrow, cell_of_row _ _ 2 _ _ _ hrow, cell_of_row _ _ 3 _ _ _ hrow, cell_of_row _ _ 4 _ _ _ hrow, cell_of_row _ _ 5 _ _ _ hrow, cell_of_row _ _ 6 _ _ _ hrow⟩, r1.below hbO, r2.below hbO, r3, r4⟩
    · exact ⟨t0, b1, m1, d1, b2, m2, d2, b3, d3, b4, d4, b5, m5, d5, b6, m6, d6, ⟨cell_of_row _ _ 7 _ _ _ hrow, cell_of_row _ _ 8 _ _ _ hrow, cell_of_row _ _ 9 _ _ _ hrow, cell_of_row _ _ 10 _ _ _ hrow, cell_of_row _ _ 11 _ _ _ hrow, cell_of_row _ _ 12 _ _ _ hrow, cell_of_row _ _ 13 _ _ _ hrow⟩, q1.below hbO, q2.below hbO, q3, q4⟩⟩
  have CL := plan_Layers (some ⟨w2.heap.size, 0, none⟩) 2 2 [oldV, oldV] rfl (by decide) (w2.alloc O) hsl
  rw [lay_two] at CL
  have hbb := hb.alloc hb.size O
  rw [hO] at CL hbb
  have HCL := Lib.hid CL
  have HBB := Lib.hid hbb
  clear CL hsl hrow hbO hO hbb r1 r2 r3 r4 q1 q2 q3 q4 hb hb1 hb2 hs1 OL
  go_wp2_with fail
  refine HCL.out.mono ?_
  rintro e w3 ⟨⟨a9, c9, rfl, _⟩, hb3⟩
  go_wp2
  go_ret
  exact ⟨rfl, HBB.out.trans (hb3.mono HBB.out.size)⟩
/-- the law's own small division -/
theorem right_one : RightS [oldV] 1 [[0]] := ⟨[1], by decide, by decide, fun i j h1 h2 => by omega⟩
end Go.Proofs.Ytembjokbhbdoeaa
