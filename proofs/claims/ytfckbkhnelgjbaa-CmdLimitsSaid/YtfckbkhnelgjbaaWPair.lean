/- tourlaw3.pair. -/
import Derived.Test.YtfckbkhnelgjbaaWCheck
import Derived.Test.YtfckbkhnelgjbaaKindTwo
namespace Go.Proofs.Ytfckbkhnelgjbaa
open Go.ChangeShapes Go.WideShapes Go.ChangeAt Go.RowKit Go.Nm Go.Mem
set_option linter.unusedVariables false
def allocs (w : World) : List Obj → World
  | [] => w
  | o :: r => allocs (w.alloc o) r
theorem allocs_below : ∀ (os : List Obj) (w : World), Below w.heap.size w (allocs w os)
  | [], w => Below.refl _ _
  | o :: r, w => ((Below.refl _ _).alloc (Nat.le_refl _) o).trans ((allocs_below r (w.alloc o)).mono (by simp))
theorem allocs_get : ∀ (os : List Obj) (w : World) (i : Nat) (o : Obj), os[i]? = some o → (allocs w os).heap[w.heap.size + i]? = some o
  | [], w, i, o, h => by simp at h
  | x :: r, w, 0, o, h => by
    have h' : x = o := by simpa using h
    subst h'
    exact heap_below (heap_alloc_new w x) (allocs_below r (w.alloc x))
  | x :: r, w, i + 1, o, h => by
    have := allocs_get r (w.alloc x) i o (by simpa using h)
    rw [World.size_alloc] at this
    rw [show w.heap.size + (i + 1) = w.heap.size + 1 + i by omega]
    exact this
def kTwo2 : KindV := ⟨⟨#[108, 105, 102, 101]⟩, [⟨⟨#[120]⟩, 8, 0⟩]⟩
def pairV : WorldV := ⟨[kTwo, kTwo2], [0, 2], [⟨0, 0, [⟨0, [4]⟩, ⟨1, [9]⟩]⟩, ⟨1, 2, [⟨1, [7]⟩]⟩]⟩
theorem pair_ok : checkE pairV = 0 := by kernel_rfl
theorem pair_small : SmallW pairV := by
  refine ⟨by decide, by decide, by decide, ?_⟩
  intro y hy
  unfold pairV at hy
  simp only [List.mem_cons, List.not_mem_nil, or_false] at hy
  rcases hy with rfl | rfl <;> refine ⟨by decide, ?_⟩ <;> intro c hc <;> simp only [List.mem_cons, List.not_mem_nil, or_false] at hc
  · rcases hc with rfl | rfl <;> decide
  · subst hc; decide
theorem fld_one {w : World} {g : Nat} {f : FieldV} (h : w.heap[g]? = some (.cells #[.string f.name, .int .i64 f.bits, .int .i64 f.low] 99 (0, 0))) (hs : f.name.size + 1 ≤ 9223372036854775807) : SlAt 3 FieldAt w (some ⟨g, 0, none⟩) [f] := fun _ => by
  refine ⟨_, rfl, lt_of_heap h, fun i hi => ?_⟩
  have hi2 : i < 1 := hi
  obtain rfl : i = 0 := by omega
  exact ⟨cell_of_row _ _ 0 _ _ _ h, cell_of_row _ _ 1 _ _ _ h, cell_of_row _ _ 2 _ _ _ h, by show f.name.size ≤ _; omega⟩
theorem twos_at {w' : World} {N : Nat} (f0 : w'.heap[N]? = some (.cells #[.string ⟨#[120]⟩, .int .i64 3, .int .i64 (-2)] 99 (0, 0))) (f1 : w'.heap[N + 1]? = some (.cells #[.string ⟨#[120]⟩, .int .i64 8, .int .i64 0] 99 (0, 0)))
    (k : w'.heap[N + 1 + 1]? = some (.cells #[.string ⟨#[112, 108, 97, 99, 101]⟩, .slice (some ⟨N, 0, none⟩) 1 1, .string ⟨#[108, 105, 102, 101]⟩, .slice (some ⟨N + 1, 0, none⟩) 1 1] 102 (0, 0))) : SlAt 2 KindAt w' (some ⟨N + 1 + 1, 0, none⟩) [kTwo, kTwo2] := fun _ => by
  refine ⟨_, rfl, lt_of_heap k, fun i hi => ?_⟩
  have hi2 : i < 2 := hi
  rcases (show i = 0 ∨ i = 1 by omega) with rfl | rfl
  · exact ⟨cell_of_row _ _ 0 _ _ _ k, by show (5 : Nat) ≤ _; omega, _, _, cell_of_row _ _ 1 _ _ _ k, Nat.le_refl _, by omega, fld_one (f := ⟨⟨#[120]⟩, 3, -2⟩) f0 (by show (1 : Nat) + 1 ≤ _; omega)⟩
  · exact ⟨cell_of_row _ _ 2 _ _ _ k, by show (4 : Nat) ≤ _; omega, _, _, cell_of_row _ _ 3 _ _ _ k, Nat.le_refl _, by omega, fld_one (f := ⟨⟨#[120]⟩, 8, 0⟩) f1 (by show (1 : Nat) + 1 ≤ _; omega)⟩
theorem comp_at {w : World} {b q : Nat} {k : Int} {vs : List Int} {a : Option Addr} {c : Nat} (h0 : w.cell? ⟨b, q, none⟩ = some (.int .i64 k)) (h1 : w.cell? ⟨b, q + 1, none⟩ = some (.slice a vs.length c)) (hv : IntsAt .i64 w a vs) : CompAt w ⟨b, q, none⟩ ⟨k, vs⟩ := ⟨h0, a, c, h1, hv⟩
theorem pair_in {w9 : World} {B N : Nat} (hk : SlAt 2 KindAt w9 (some ⟨N, 0, none⟩) [kTwo, kTwo2])
    (g0 : w9.heap[B]? = some (.cells #[.int .i64 0, .int .i64 2] 3 (0, 0))) (g1 : w9.heap[B + 1]? = some (.cells #[.int .i64 4] 3 (0, 0))) (g2 : w9.heap[B + 1 + 1]? = some (.cells #[.int .i64 9] 3 (0, 0)))
    (g3 : w9.heap[B + 1 + 1 + 1]? = some (.cells #[.int .i64 0, .slice (some ⟨B + 1, 0, none⟩) 1 1, .int .i64 1, .slice (some ⟨B + 1 + 1, 0, none⟩) 1 1] 95 (0, 0)))
    (g4 : w9.heap[B + 1 + 1 + 1 + 1]? = some (.cells #[.int .i64 7] 3 (0, 0)))
    (g5 : w9.heap[B + 1 + 1 + 1 + 1 + 1]? = some (.cells #[.int .i64 1, .slice (some ⟨B + 1 + 1 + 1 + 1, 0, none⟩) 1 1] 95 (0, 0)))
    (g6 : w9.heap[B + 1 + 1 + 1 + 1 + 1 + 1]? = some (.cells #[.int .i64 0, .int .i64 0, .slice (some ⟨B + 1 + 1 + 1, 0, none⟩) 2 2, .int .i64 1, .int .i64 2, .slice (some ⟨B + 1 + 1 + 1 + 1 + 1, 0, none⟩) 1 1] 72 (0, 0))) :
    WorldIn w9 (.agg #[.slice (some ⟨N, 0, none⟩) 2 2, .slice (some ⟨B, 0, none⟩) 2 2, .slice (some ⟨B + 1 + 1 + 1 + 1 + 1 + 1, 0, none⟩) 2 2]) pairV := by
  refine ⟨_, _, _, _, _, _, rfl, hk, RowB.ints (k := .i64) (zs := [0, 2]) (show RowB _ _ 3 .i64 [0, 2] from g0), fun _ => ⟨_, rfl, lt_of_heap g6, fun i hi => ?_⟩, by decide, by decide⟩
  have c4 : IntsAt .i64 w9 (some ⟨B + 1, 0, none⟩) [4] := RowB.ints (k := .i64) (zs := [4]) (show RowB _ _ 3 .i64 [4] from g1)
  have c9 : IntsAt .i64 w9 (some ⟨B + 1 + 1, 0, none⟩) [9] := RowB.ints (k := .i64) (zs := [9]) (show RowB _ _ 3 .i64 [9] from g2)
  have c7 : IntsAt .i64 w9 (some ⟨B + 1 + 1 + 1 + 1, 0, none⟩) [7] := RowB.ints (k := .i64) (zs := [7]) (show RowB _ _ 3 .i64 [7] from g4)
  have hi2 : i < 2 := hi
  rcases (show i = 0 ∨ i = 1 by omega) with rfl | rfl
  · refine ⟨cell_of_row _ _ 0 _ _ _ g6, cell_of_row _ _ 1 _ _ _ g6, _, _, cell_of_row _ _ 2 _ _ _ g6, fun _ => ⟨_, rfl, lt_of_heap g3, fun j hj => ?_⟩⟩
    have hj2 : j < 2 := hj
    rcases (show j = 0 ∨ j = 1 by omega) with rfl | rfl
    · exact comp_at (cell_of_row _ _ 0 _ _ _ g3) (cell_of_row _ _ 1 _ _ _ g3) c4
    · exact comp_at (b := B + 1 + 1 + 1) (q := 2) (cell_of_row _ _ 2 _ _ _ g3) (cell_of_row _ _ 3 _ _ _ g3) c9
  · refine ⟨cell_of_row _ _ 3 _ _ _ g6, cell_of_row _ _ 4 _ _ _ g6, _, _, cell_of_row _ _ 5 _ _ _ g6, fun _ => ⟨_, rfl, lt_of_heap g5, fun j hj => ?_⟩⟩
    have hj2 : j < 1 := hj
    obtain rfl : j = 0 := by omega
    exact comp_at (cell_of_row _ _ 0 _ _ _ g5) (cell_of_row _ _ 1 _ _ _ g5) c7
set_option maxHeartbeats 4000000 in
theorem pair_w (w : World) : Calls Try.prog 9 #[] w fun e w' => (∃ v, e = .returned v ∧ WorldIn w' v pairV) ∧ Below w.heap.size w w' := by
  go_enter Try.func9, Try.ntmps9
  go_wp2_with fail
  refine (two_w _).mono ?_
  rintro e w1 ⟨rfl, ht⟩
  obtain ⟨B, hB⟩ : ∃ B, B = w1.heap.size := ⟨_, rfl⟩
  obtain ⟨os, hos⟩ : ∃ os : List Obj, os = [.cells #[.int .i64 0, .int .i64 2] 3 (0, 0), .cells #[.int .i64 4] 3 (0, 0), .cells #[.int .i64 9] 3 (0, 0), .cells #[.int .i64 0, .slice (some ⟨B + 1, 0, none⟩) 1 1, .int .i64 1, .slice (some ⟨B + 1 + 1, 0, none⟩) 1 1] 95 (0, 0), .cells #[.int .i64 7] 3 (0, 0), .cells #[.int .i64 1, .slice (some ⟨B + 1 + 1 + 1 + 1, 0, none⟩) 1 1] 95 (0, 0), .cells #[.int .i64 0, .int .i64 0, .slice (some ⟨B + 1 + 1 + 1, 0, none⟩) 2 2, .int .i64 1, .int .i64 2, .slice (some ⟨B + 1 + 1 + 1 + 1 + 1, 0, none⟩) 1 1] 72 (0, 0)] := ⟨_, rfl⟩
  have hget := fun i o => allocs_get os w1 i o
  rw [← hB] at hget
  have hbel := allocs_below os w1
  have hw0 := heap_below (heap_below (heap_alloc_new w (.cells #[.slice none 0 0, .slice none 0 0, .slice none 0 0] 37 (0, 0))) ht.bel) hbel
  have hbW := ((Below.refl w.heap.size w).alloc (Nat.le_refl _) (.cells #[.slice none 0 0, .slice none 0 0, .slice none 0 0] 37 (0, 0))).trans (ht.bel.mono (by simp))
  have hb8 := bt hbW hbel
  have k0 := heap_below ht.f0 hbel
  have k1 := heap_below ht.f1 hbel
  have k2 := heap_below ht.k hbel
  have hlt : w.heap.size < B := by have := ht.bel.size; rw [← hB] at this; simp at this; omega
  have HT := Lib.hid (show w.heap.size + 1 + 1 + 1 = w.heap.size + 1 + 1 + 1 from rfl)
  have g0 := hget 0 _ (by rw [hos]; rfl)
  have g1 := hget 1 _ (by rw [hos]; rfl)
  have g2 := hget 2 _ (by rw [hos]; rfl)
  have g3 := hget 3 _ (by rw [hos]; rfl)
  have g4 := hget 4 _ (by rw [hos]; rfl)
  have g5 := hget 5 _ (by rw [hos]; rfl)
  have g6 := hget 6 _ (by rw [hos]; rfl)
  have hN : (w.alloc (.cells #[.slice none 0 0, .slice none 0 0, .slice none 0 0] 37 (0, 0))).heap.size = w.heap.size + 1 := by simp
  rw [hN] at k0 k1 k2
  rw [hos, hB] at g0 g1 g2 g3 g4 g5 g6 hw0 hb8 k0 k1 k2
  simp only [allocs] at g0 g1 g2 g3 g4 g5 g6 hw0 hb8 k0 k1 k2
  clear hget hbel hbW ht hN HT hos os
  rw [hB] at hlt
  have G0 := Lib.hid g0
  have G1 := Lib.hid g1
  have G2 := Lib.hid g2
  have G3 := Lib.hid g3
  have G4 := Lib.hid g4
  have G5 := Lib.hid g5
  have G6 := Lib.hid g6
  have HW := Lib.hid hw0
  have HB8 := Lib.hid hb8
  have K0 := Lib.hid k0
  have K1 := Lib.hid k1
  have K2 := Lib.hid k2
  clear g0 g1 g2 g3 g4 g5 g6 hw0 hb8 k0 k1 k2 hB
  go_wp2_with (refine wpList_store_rowP rfl 37 (.tmp 0) (.tmp 15) rfl w.heap.size #[.slice (some ⟨w.heap.size + 1 + 1 + 1, 0, none⟩) 2 2, .slice (some ⟨w1.heap.size, 0, none⟩) 2 2, .slice (some ⟨w1.heap.size + 1 + 1 + 1 + 1 + 1 + 1, 0, none⟩) 2 2] rfl rfl _ _ HW.out (by kernel_rfl) rfl (ones3 _ _ _ rfl rfl rfl) ?_; intro w9 hput; have HPUT := Lib.hid hput; clear hput)
  have hput := HPUT.out
  refine bodyPost_ret (results_cell_row Try.results9 _ _ (w.heap.size) 37 _ (0, 0) _ rfl hput.here Try.underlying37 rfl (by kernel_rfl)) rfl ⟨⟨_, rfl, ?_⟩, HB8.out.trans (hput.below (Nat.le_refl _))⟩
  exact pair_in (twos_at ((hput.else_ _ (by omega)).trans K0.out) ((hput.else_ _ (by omega)).trans K1.out) ((hput.else_ _ (by omega)).trans K2.out)) ((hput.else_ _ (by omega)).trans G0.out) ((hput.else_ _ (by omega)).trans G1.out) ((hput.else_ _ (by omega)).trans G2.out) ((hput.else_ _ (by omega)).trans G3.out) ((hput.else_ _ (by omega)).trans G4.out) ((hput.else_ _ (by omega)).trans G5.out) ((hput.else_ _ (by omega)).trans G6.out)
end Go.Proofs.Ytfckbkhnelgjbaa
