/- tourlaw3.two; the law KindRanges. -/
import Derived.Test.YtioboeiadebbcaaDoorHighW
import Derived.Test.YtioboeiadebbcaaDoorMem2
import Derived.Lib.SmallJoins
import Derived.ChangeArms
namespace Go.Proofs.YtioboeiadebbcaaDoor
open Go.ChangeShapes Go.WideShapes Go.ChangeAt Go.RowKit Go.Nm Go.Mem
set_option linter.unusedVariables false
/-- what two() lays: two fields, two kinds -/
structure TwoAt (W w : World) : Prop where
  bel : Below W.heap.size W w
  f0 : w.heap[W.heap.size]? = some (.cells #[.string ⟨#[120]⟩, .int .i64 3, .int .i64 (-2)] 23 (0, 0))
  f1 : w.heap[W.heap.size + 1]? = some (.cells #[.string ⟨#[120]⟩, .int .i64 8, .int .i64 0] 23 (0, 0))
  k : w.heap[W.heap.size + 1 + 1]? = some (.cells #[.string ⟨#[112, 108, 97, 99, 101]⟩, .slice (some ⟨W.heap.size, 0, none⟩) 1 1, .string ⟨#[108, 105, 102, 101]⟩, .slice (some ⟨W.heap.size + 1, 0, none⟩) 1 1] 27 (0, 0))
theorem two_w (w : World) : Calls Tryd.prog 6 #[] w fun e w' => e = .returned (.slice (some ⟨w.heap.size + 1 + 1, 0, none⟩) 2 2) ∧ TwoAt w w' := by
  go_enter Tryd.func6, Tryd.ntmps6
  go_wp2_with fail
  go_ret
  refine ⟨rfl, (((Below.refl _ _).alloc (Nat.le_refl _) _).alloc (by simp) _).alloc (by simp; omega) _, ?_, ?_, ?_⟩
  · exact heap_keep (heap_keep (heap_alloc_new w _) _) _
  · have := heap_alloc_new (w.alloc (.cells #[.string ⟨#[120]⟩, .int .i64 3, .int .i64 (-2)] 23)) (.cells #[.string ⟨#[120]⟩, .int .i64 8, .int .i64 0] 23)
    exact heap_keep (by simpa using this) _
  · have := heap_alloc_new ((w.alloc (.cells #[.string ⟨#[120]⟩, .int .i64 3, .int .i64 (-2)] 23)).alloc (.cells #[.string ⟨#[120]⟩, .int .i64 8, .int .i64 0] 23)) (.cells #[.string ⟨#[112, 108, 97, 99, 101]⟩, .slice (some ⟨w.heap.size, 0, none⟩) 1 1, .string ⟨#[108, 105, 102, 101]⟩, .slice (some ⟨w.heap.size + 1, 0, none⟩) 1 1] 27)
    simpa using this
theorem High_two (w : World) : Calls Tryd.prog 5 #[.agg #[.string ⟨#[120]⟩, .int .i64 3, .int .i64 (-2)]] w fun e w' => e = .returned (.int .i64 5) ∧ Below w.heap.size w w' :=
  High_ok ⟨#[120]⟩ 3 (-2) (by decide) (by decide) (by decide) (by decide) (by decide) (by decide) w
/-- the box's cells in a later world -/
theorem box3 {w w2 : World} {a b c : Value} {t : TypeId} (h : Below (w.alloc (.cells #[a, b, c] t)).heap.size (w.alloc (.cells #[a, b, c] t)) w2) :
    w2.cell? ⟨w.heap.size, 0, none⟩ = some a ∧ w2.cell? ⟨w.heap.size, 1, none⟩ = some b ∧ w2.cell? ⟨w.heap.size, 2, none⟩ = some c ∧ Below w.heap.size w w2 := by
  have hh := heap_below (heap_alloc_new w (.cells #[a, b, c] t)) h
  exact ⟨by rw [cell_of_row _ _ 0 _ _ _ hh]; rfl, by rw [cell_of_row _ _ 1 _ _ _ hh]; rfl, by rw [cell_of_row _ _ 2 _ _ _ hh]; rfl, ((Below.refl _ _).alloc (Nat.le_refl _) _).trans (h.mono (by simp))⟩
set_option maxHeartbeats 4000000 in
theorem ranges_ok (s : ByteArray) (b l v T X : Int)
    (A1 : Hid (∀ W, Calls Tryd.prog 7 #[.agg #[.string s, .int .i64 b, .int .i64 l]] W fun e w' => e = .returned (.bool true) ∧ Below W.heap.size W w'))
    (A2 : Hid (∀ W, Calls Tryd.prog 8 #[.agg #[.string s, .int .i64 b, .int .i64 l]] W fun e w' => e = .returned (.int .i64 T) ∧ W.alloc (.cells #[.string s, .int .i64 b, .int .i64 l] 23) = w'))
    (A3 : Hid (∀ W, Calls Tryd.prog 5 #[.agg #[.string s, .int .i64 b, .int .i64 l]] W fun e w' => e = .returned (.int .i64 T) ∧ Below W.heap.size W w'))
    (A4 : Hid (∀ W, Calls Tryd.prog 9 #[.agg #[.string s, .int .i64 b, .int .i64 l], .int .i64 v] W fun e w' => e = .returned (.int .i64 X) ∧ Below W.heap.size W w'))
    (A5 : Hid (∀ W, Calls Tryd.prog 10 #[.agg #[.string s, .int .i64 b, .int .i64 l], .int .i64 v] W fun e w' => e = .returned (.int .i64 X) ∧ Below W.heap.size W w'))
    (w : World) : Calls Tryd.prog 3 #[.agg #[.string s, .int .i64 b, .int .i64 l], .int .i64 v] w fun e w' => e = .returned (.bool true) ∧ Below w.heap.size w w' := by
  have t1 : (T == T) = true := beq_self_eq_true T
  have t2 : (X == X) = true := beq_self_eq_true X
  go_enter Tryd.func3, Tryd.ntmps3
  go_wp2_with fail
  refine (two_w _).mono ?_
  rintro e w1 ⟨rfl, h1⟩
  have hb1 := h1.bel
  have hk := h1.k
  have hf := h1.f0
  have hsz : ∀ o : Obj, (w.alloc o).heap.size = w.heap.size + 1 := fun o => by simp
  rw [hsz] at hk hf
  clear hsz
  have k1 : w1.cell? ⟨w.heap.size + 1 + 1 + 1, 1, none⟩ = some (.slice (some ⟨w.heap.size + 1, 0, none⟩) 1 1) := by rw [cell_of_row _ _ 1 _ _ _ hk]; rfl
  have k2 : w1.cell? ⟨w.heap.size + 1, 0, none⟩ = some (.string ⟨#[120]⟩) := by rw [cell_of_row _ _ 0 _ _ _ hf]; rfl
  have k3 : w1.cell? ⟨w.heap.size + 1, 1, none⟩ = some (.int .i64 3) := by rw [cell_of_row _ _ 1 _ _ _ hf]; rfl
  have k4 : w1.cell? ⟨w.heap.size + 1, 2, none⟩ = some (.int .i64 (-2)) := by rw [cell_of_row _ _ 2 _ _ _ hf]; rfl
  clear hk hf h1
  go_wp2_with fail
  refine (High_two _).mono ?_
  rintro e w2 ⟨rfl, hb2⟩
  have hB2 := hb1.trans (hb2.mono hb1.size)
  obtain ⟨c0, c1, c2, hb⟩ := box3 hB2
  have HB2 := Lib.hid hB2
  clear hb1 hb2 hB2 hb k1 k2 k3 k4
  go_wp2_with fail
  refine (A1.out _).mono ?_
  rintro e w3 ⟨rfl, hb3⟩
  have hB3 := HB2.out.trans (hb3.mono HB2.out.size)
  obtain ⟨c0, c1, c2, hb⟩ := box3 hB3
  have HB3 := Lib.hid hB3
  clear hb3 hB3 hb HB2
  go_wp2_with fail
  refine (A2.out _).mono ?_
  rintro e w4 ⟨rfl, hw4⟩
  have hB4 : Below _ _ w4 := hw4 ▸ HB3.out.alloc HB3.out.size _
  obtain ⟨c0, c1, c2, hb⟩ := box3 hB4
  clear hB4 HB3 hw4
  go_wp2_with fail
  go_region_held3 (fun w' => w'.cell? ⟨w.heap.size, 0, none⟩ = some (.string s) ∧ w'.cell? ⟨w.heap.size, 1, none⟩ = some (.int .i64 b) ∧ w'.cell? ⟨w.heap.size, 2, none⟩ = some (.int .i64 l) ∧ Below w.heap.size w w')
    (first | exact ⟨c0, c1, c2, hb.drew⟩ | assumption | exact keep3 (by assumption) (by assumption) (Nat.le_refl _))
    (first
      | (go_at_call 5; refine (A3.out _).mono ?_; rintro e w8 ⟨rfl, hb8⟩)
      | (go_at_call 9; refine (A4.out _).mono ?_; rintro e w8 ⟨rfl, hb8⟩)
      | (go_at_call 10; refine (A5.out _).mono ?_; rintro e w8 ⟨rfl, hb8⟩))
  go_wp2
  go_ret
  exact ⟨rfl, lastk3 (by assumption)⟩
set_option maxHeartbeats 4000000 in
theorem ranges_bad (s : ByteArray) (b l v T X : Int)
    (A1 : Hid (∀ W, Calls Tryd.prog 7 #[.agg #[.string s, .int .i64 b, .int .i64 l]] W fun e w' => e = .returned (.bool false) ∧ Below W.heap.size W w'))
    (A3 : Hid (∀ W, Calls Tryd.prog 5 #[.agg #[.string s, .int .i64 b, .int .i64 l]] W fun e w' => e = .returned (.int .i64 0) ∧ Below W.heap.size W w'))
    (A4 : Hid (∀ W, Calls Tryd.prog 9 #[.agg #[.string s, .int .i64 b, .int .i64 l], .int .i64 v] W fun e w' => e = .returned (.int .i64 X) ∧ Below W.heap.size W w'))
    (A5 : Hid (∀ W, Calls Tryd.prog 10 #[.agg #[.string s, .int .i64 b, .int .i64 l], .int .i64 v] W fun e w' => e = .returned (.int .i64 X) ∧ Below W.heap.size W w'))
    (w : World) : Calls Tryd.prog 3 #[.agg #[.string s, .int .i64 b, .int .i64 l], .int .i64 v] w fun e w' => e = .returned (.bool true) ∧ Below w.heap.size w w' := by
  have t1 : (T == T) = true := beq_self_eq_true T
  have t2 : (X == X) = true := beq_self_eq_true X
  go_enter Tryd.func3, Tryd.ntmps3
  go_wp2_with fail
  refine (two_w _).mono ?_
  rintro e w1 ⟨rfl, h1⟩
  have hb1 := h1.bel
  have hk := h1.k
  have hf := h1.f0
  have hsz : ∀ o : Obj, (w.alloc o).heap.size = w.heap.size + 1 := fun o => by simp
  rw [hsz] at hk hf
  clear hsz
  have k1 : w1.cell? ⟨w.heap.size + 1 + 1 + 1, 1, none⟩ = some (.slice (some ⟨w.heap.size + 1, 0, none⟩) 1 1) := by rw [cell_of_row _ _ 1 _ _ _ hk]; rfl
  have k2 : w1.cell? ⟨w.heap.size + 1, 0, none⟩ = some (.string ⟨#[120]⟩) := by rw [cell_of_row _ _ 0 _ _ _ hf]; rfl
  have k3 : w1.cell? ⟨w.heap.size + 1, 1, none⟩ = some (.int .i64 3) := by rw [cell_of_row _ _ 1 _ _ _ hf]; rfl
  have k4 : w1.cell? ⟨w.heap.size + 1, 2, none⟩ = some (.int .i64 (-2)) := by rw [cell_of_row _ _ 2 _ _ _ hf]; rfl
  clear hk hf h1
  go_wp2_with fail
  refine (High_two _).mono ?_
  rintro e w2 ⟨rfl, hb2⟩
  have hB2 := hb1.trans (hb2.mono hb1.size)
  obtain ⟨c0, c1, c2, hb⟩ := box3 hB2
  have HB2 := Lib.hid hB2
  clear hb1 hb2 hB2 hb k1 k2 k3 k4
  go_wp2_with fail
  refine (A1.out _).mono ?_
  rintro e w3 ⟨rfl, hb3⟩
  have hB3 := HB2.out.trans (hb3.mono HB2.out.size)
  obtain ⟨c0, c1, c2, hb⟩ := box3 hB3
  have HB3 := Lib.hid hB3
  clear hb3 hB3 hb HB2
  go_wp2_with fail
  obtain ⟨c0, c1, c2, hb⟩ := box3 HB3.out
  clear HB3
  go_region_held3 (fun w' => w'.cell? ⟨w.heap.size, 0, none⟩ = some (.string s) ∧ w'.cell? ⟨w.heap.size, 1, none⟩ = some (.int .i64 b) ∧ w'.cell? ⟨w.heap.size, 2, none⟩ = some (.int .i64 l) ∧ Below w.heap.size w w')
    (first | exact ⟨c0, c1, c2, hb.drew⟩ | assumption | exact keep3 (by assumption) (by assumption) (Nat.le_refl _))
    (first
      | (go_at_call 5; refine (A3.out _).mono ?_; rintro e w8 ⟨rfl, hb8⟩)
      | (go_at_call 9; refine (A4.out _).mono ?_; rintro e w8 ⟨rfl, hb8⟩)
      | (go_at_call 10; refine (A5.out _).mono ?_; rintro e w8 ⟨rfl, hb8⟩))
  go_wp2
  go_ret
  exact ⟨rfl, lastk3 (by assumption)⟩
theorem walk_KindRanges (s : ByteArray) (b l v : Int) (hs : s.size ≤ 9223372036854775807) (w : World) : Calls Tryd.prog 3 #[.agg #[.string s, .int .i64 b, .int .i64 l], .int .i64 v] w fun e w' => e = .returned (.bool true) ∧ Below w.heap.size w w' := by
  rcases field_cases s b l with ⟨hf, hn, h1, h2, h3, h4⟩ | ⟨hf, hx⟩
  · obtain ⟨n, rfl⟩ := Int.eq_ofNat_of_zero_le (show 0 ≤ b by omega)
    exact ranges_ok s n l v (topF n l) (nearF n l v) (Lib.hid (fun W => by have := ref_FieldOK s n l hs W; rw [hf] at this; exact this)) (Lib.hid (ref_Top s n l (by omega) h3 h4)) (Lib.hid (High_ok s n l hs hf (by omega) (by omega) h3 h4))
      (Lib.hid (Near_ok s n l v hs hf (by omega) (by omega) h3 h4)) (Lib.hid (Nearest_ok s n l v hs hf (by omega) (by omega) h3 h4)) w
  · exact ranges_bad s b l v 0 0 (Lib.hid (fun W => by have := ref_FieldOK s b l hs W; rw [hf] at this; exact this)) (Lib.hid (High_bad s b l hs hf)) (Lib.hid (Near_bad s b l v hs hf)) (Lib.hid (Nearest_bad s b l v hs hf)) w
section
open Go.Joins Go.Deep
variable {H : Type} {enc : TypeId × Value → H} {w : World} {base : Nat} {spare : Nat → Bool} {held : Bool}
set_option maxRecDepth 100000 in
/-- a field handed over by value -/
theorem open_field {r : Reach} {b0 : Nat} {v : Value} {d : DataW H} {p : List MemPlace} (hv : Value.okWide Tryd.prog w r b0 23 v) (h : DataW.Trod enc Tryd.prog w base spare held 23 v d p) :
    ∃ (s : ByteArray) (b l : Int), v = .agg #[.string s, .int .i64 b, .int .i64 l] ∧ s.size ≤ maxLen := by
  obtain ⟨v0, v1, v2, y0, y1, y2, n, rfl, _, _, h0, h1, h2⟩ := open_agg3 Tryd.underlying23 (by kernel_rfl) (by kernel_rfl) hv h
  obtain ⟨s, e0, _, hs⟩ := DataW.trod_string Tryd.underlying9 h0
  obtain ⟨b, e1, _, _⟩ := DataW.trod_int Tryd.underlying3 h1
  obtain ⟨l, e2, _, _⟩ := DataW.trod_int Tryd.underlying3 h2
  injection e0 with e0; injection e1 with e1; injection e2 with e2
  subst e0 e1 e2
  exact ⟨s, b, l, rfl, hs⟩
end
set_option maxRecDepth 100000 in
theorem law_KindRanges {H : Type} {enc : TypeId × Value → H} (W : World) {base : Nat} {r : Reach} {v0 : Value} {d : DataW H} {p : List MemPlace} (hv : Value.okWide Tryd.prog W r base 23 v0) (h : DataW.Trod enc Tryd.prog W 0 (fun _ => true) true 23 v0 d p) (v : Int) :
    Calls Tryd.prog 3 #[v0, .int .i64 v] W fun e w' => e = .returned (.bool true) ∧ Below W.heap.size W w' := by
  obtain ⟨s, b, l, rfl, hs⟩ := open_field hv h
  unfold maxLen at hs
  exact walk_KindRanges s b l v (by omega) W
end Go.Proofs.YtioboeiadebbcaaDoor
