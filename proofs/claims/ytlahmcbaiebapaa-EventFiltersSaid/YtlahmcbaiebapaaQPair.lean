/- tourlaw3.pair: its items. -/
import Derived.Test.YtlahmcbaiebapaaTwoA
import Derived.Test.YtlahmcbaiebapaaApiItem
import Derived.Test.YtlahmcbaiebapaaMem3
import Derived.OwnWalk
import Derived.BigQuiet
namespace Go.Proofs.Ytlahmcbaiebapaa
open Go.ChangeShapes Go.WideShapes Go.ChangeAt Go.RowKit Go.Mem
set_option linter.unusedVariables false
/-- a world's value, its items alone told -/
def WorldI (w : World) (v : Value) (its : List ItemV) : Prop := ∃ ak nk ck ag ng cg ai ci, v = .agg #[.slice ak nk ck, .slice ag ng cg, .slice ai its.length ci] ∧ SlAt 3 ItemAt w ai its
theorem WorldI.below {w w' : World} {v : Value} {its : List ItemV} (h : WorldI w v its) (hb : Below w.heap.size w w') : WorldI w' v its := by
  obtain ⟨ak, nk, ck, ag, ng, cg, ai, ci, rfl, h1⟩ := h
  exact ⟨ak, nk, ck, ag, ng, cg, ai, ci, rfl, h1.below ItemAt.abides hb⟩
def pairI : List ItemV := [⟨0, 0, [⟨0, [4]⟩, ⟨1, [9]⟩]⟩, ⟨1, 2, [⟨1, [7]⟩]⟩]
def allocs (w : World) : List Obj → World
  | [] => w
  | o :: r => allocs (w.alloc o) r
theorem allocs_below : ∀ (os : List Obj) (w : World), Below w.heap.size w (allocs w os)
  | [], w => Below.refl _ _
  | o :: r, w => ((Below.refl _ _).alloc (Nat.le_refl _) o).trans ((allocs_below r (w.alloc o)).mono (by simp))
theorem allocs_get : ∀ (os : List Obj) (w : World) (i : Nat) (o : Obj), os[i]? = some o → (allocs w os).heap[w.heap.size + i]? = some o
  | [], w, i, o, h => by simp at h
  | x :: r, w, 0, o, h => by
    have h' : x = o := by simpa using h
    subst h'
    exact heap_below (heap_alloc_new w x) (allocs_below r (w.alloc x))
  | x :: r, w, i + 1, o, h => by
    have := allocs_get r (w.alloc x) i o (by simpa using h)
    rw [World.size_alloc] at this
    rw [show w.heap.size + (i + 1) = w.heap.size + 1 + i by omega]
    exact this
theorem comp_at {w : World} {b q : Nat} {k : Int} {vs : List Int} {a : Option Addr} {c : Nat} (h0 : w.cell? ⟨b, q, none⟩ = some (.int .i64 k)) (h1 : w.cell? ⟨b, q + 1, none⟩ = some (.slice a vs.length c)) (hv : IntsAt .i64 w a vs) : CompAt w ⟨b, q, none⟩ ⟨k, vs⟩ := ⟨h0, a, c, h1, hv⟩
theorem pair_in {w9 : World} {B N : Nat}     (g0 : w9.heap[B]? = some (.cells #[.int .i64 0, .int .i64 2] 3 (0, 0))) (g1 : w9.heap[B + 1]? = some (.cells #[.int .i64 4] 3 (0, 0))) (g2 : w9.heap[B + 1 + 1]? = some (.cells #[.int .i64 9] 3 (0, 0)))
    (g3 : w9.heap[B + 1 + 1 + 1]? = some (.cells #[.int .i64 0, .slice (some ⟨B + 1, 0, none⟩) 1 1, .int .i64 1, .slice (some ⟨B + 1 + 1, 0, none⟩) 1 1] 84 (0, 0)))
    (g4 : w9.heap[B + 1 + 1 + 1 + 1]? = some (.cells #[.int .i64 7] 3 (0, 0)))
    (g5 : w9.heap[B + 1 + 1 + 1 + 1 + 1]? = some (.cells #[.int .i64 1, .slice (some ⟨B + 1 + 1 + 1 + 1, 0, none⟩) 1 1] 84 (0, 0)))
    (g6 : w9.heap[B + 1 + 1 + 1 + 1 + 1 + 1]? = some (.cells #[.int .i64 0, .int .i64 0, .slice (some ⟨B + 1 + 1 + 1, 0, none⟩) 2 2, .int .i64 1, .int .i64 2, .slice (some ⟨B + 1 + 1 + 1 + 1 + 1, 0, none⟩) 1 1] 80 (0, 0))) :
    WorldI w9 (.agg #[.slice (some ⟨N, 0, none⟩) 2 2, .slice (some ⟨B, 0, none⟩) 2 2, .slice (some ⟨B + 1 + 1 + 1 + 1 + 1 + 1, 0, none⟩) 2 2]) pairI := by
  refine ⟨_, _, _, _, _, _, _, _, rfl, fun _ => ⟨_, rfl, lt_of_heap g6, fun i hi => ?_⟩⟩
  have c4 : IntsAt .i64 w9 (some ⟨B + 1, 0, none⟩) [4] := RowB.ints (k := .i64) (zs := [4]) (show RowB _ _ 3 .i64 [4] from g1)
  have c9 : IntsAt .i64 w9 (some ⟨B + 1 + 1, 0, none⟩) [9] := RowB.ints (k := .i64) (zs := [9]) (show RowB _ _ 3 .i64 [9] from g2)
  have c7 : IntsAt .i64 w9 (some ⟨B + 1 + 1 + 1 + 1, 0, none⟩) [7] := RowB.ints (k := .i64) (zs := [7]) (show RowB _ _ 3 .i64 [7] from g4)
  have hi2 : i < 2 := hi
  rcases (show i = 0 ∨ i = 1 by omega) with rfl | rfl
  · refine ⟨cell_of_row _ _ 0 _ _ _ g6, cell_of_row _ _ 1 _ _ _ g6, _, _, cell_of_row _ _ 2 _ _ _ g6, fun _ => ⟨_, rfl, lt_of_heap g3, fun j hj => ?_⟩⟩
    have hj2 : j < 2 := hj
    rcases (show j = 0 ∨ j = 1 by omega) with rfl | rfl
    · exact comp_at (cell_of_row _ _ 0 _ _ _ g3) (cell_of_row _ _ 1 _ _ _ g3) c4
    · exact comp_at (b := B + 1 + 1 + 1) (q := 2) (cell_of_row _ _ 2 _ _ _ g3) (cell_of_row _ _ 3 _ _ _ g3) c9
  · refine ⟨cell_of_row _ _ 3 _ _ _ g6, cell_of_row _ _ 4 _ _ _ g6, _, _, cell_of_row _ _ 5 _ _ _ g6, fun _ => ⟨_, rfl, lt_of_heap g5, fun j hj => ?_⟩⟩
    have hj2 : j < 1 := hj
    obtain rfl : j = 0 := by omega
    exact comp_at (cell_of_row _ _ 0 _ _ _ g5) (cell_of_row _ _ 1 _ _ _ g5) c7
set_option maxHeartbeats 4000000 in
theorem pair_w (w : World) : Calls Try.prog 46 #[] w fun e w' => (∃ v, e = .returned v ∧ WorldI w' v pairI) ∧ Below w.heap.size w w' := by
  go_enter Try.func46, Try.ntmps46
  go_wp2_with fail
  refine (two_w _).mono ?_
  rintro e w1 ⟨rfl, ht⟩
  obtain ⟨B, hB⟩ : ∃ B, B = w1.heap.size := ⟨_, rfl⟩
  obtain ⟨os, hos⟩ : ∃ os : List Obj, os = [.cells #[.int .i64 0, .int .i64 2] 3 (0, 0), .cells #[.int .i64 4] 3 (0, 0), .cells #[.int .i64 9] 3 (0, 0), .cells #[.int .i64 0, .slice (some ⟨B + 1, 0, none⟩) 1 1, .int .i64 1, .slice (some ⟨B + 1 + 1, 0, none⟩) 1 1] 84 (0, 0), .cells #[.int .i64 7] 3 (0, 0), .cells #[.int .i64 1, .slice (some ⟨B + 1 + 1 + 1 + 1, 0, none⟩) 1 1] 84 (0, 0), .cells #[.int .i64 0, .int .i64 0, .slice (some ⟨B + 1 + 1 + 1, 0, none⟩) 2 2, .int .i64 1, .int .i64 2, .slice (some ⟨B + 1 + 1 + 1 + 1 + 1, 0, none⟩) 1 1] 80 (0, 0)] := ⟨_, rfl⟩
  have hget := fun i o => allocs_get os w1 i o
  rw [← hB] at hget
  have hbel := allocs_below os w1
  have hw0 := heap_below (heap_below (heap_alloc_new w (.cells #[.slice none 0 0, .slice none 0 0, .slice none 0 0] 70 (0, 0))) ht.bel) hbel
  have hbW := ((Below.refl w.heap.size w).alloc (Nat.le_refl _) (.cells #[.slice none 0 0, .slice none 0 0, .slice none 0 0] 70 (0, 0))).trans (ht.bel.mono (by simp))
  have hb8 := bt hbW hbel
  have k0 := heap_below ht.f0 hbel
  have k1 := heap_below ht.f1 hbel
  have k2 := heap_below ht.k hbel
  have hlt : w.heap.size < B := by have := ht.bel.size; rw [← hB] at this; simp at this; omega
  have HT := Lib.hid (show w.heap.size + 1 + 1 + 1 = w.heap.size + 1 + 1 + 1 from rfl)
  have g0 := hget 0 _ (by rw [hos]; rfl)
  have g1 := hget 1 _ (by rw [hos]; rfl)
  have g2 := hget 2 _ (by rw [hos]; rfl)
  have g3 := hget 3 _ (by rw [hos]; rfl)
  have g4 := hget 4 _ (by rw [hos]; rfl)
  have g5 := hget 5 _ (by rw [hos]; rfl)
  have g6 := hget 6 _ (by rw [hos]; rfl)
  have hN : (w.alloc (.cells #[.slice none 0 0, .slice none 0 0, .slice none 0 0] 70 (0, 0))).heap.size = w.heap.size + 1 := by simp
  rw [hN] at k0 k1 k2
  rw [hos, hB] at g0 g1 g2 g3 g4 g5 g6 hw0 hb8 k0 k1 k2
  simp only [allocs] at g0 g1 g2 g3 g4 g5 g6 hw0 hb8 k0 k1 k2
  clear hget hbel hbW ht hN HT hos os
  rw [hB] at hlt
  have G0 := Lib.hid g0
  have G1 := Lib.hid g1
  have G2 := Lib.hid g2
  have G3 := Lib.hid g3
  have G4 := Lib.hid g4
  have G5 := Lib.hid g5
  have G6 := Lib.hid g6
  have HW := Lib.hid hw0
  have HB8 := Lib.hid hb8
  have K0 := Lib.hid k0
  have K1 := Lib.hid k1
  have K2 := Lib.hid k2
  clear g0 g1 g2 g3 g4 g5 g6 hw0 hb8 k0 k1 k2 hB
  go_wp2_with (refine wpList_store_rowP rfl 70 (.tmp 0) (.tmp 15) rfl w.heap.size #[.slice (some ⟨w.heap.size + 1 + 1 + 1, 0, none⟩) 2 2, .slice (some ⟨w1.heap.size, 0, none⟩) 2 2, .slice (some ⟨w1.heap.size + 1 + 1 + 1 + 1 + 1 + 1, 0, none⟩) 2 2] rfl rfl _ _ HW.out (by kernel_rfl) rfl (ones3 _ _ _ rfl rfl rfl) ?_; intro w9 hput; have HPUT := Lib.hid hput; clear hput)
  have hput := HPUT.out
  refine bodyPost_ret (results_cell_row Try.results46 _ _ (w.heap.size) 70 _ (0, 0) _ rfl hput.here Try.underlying70 rfl (by kernel_rfl)) rfl ⟨⟨_, rfl, ?_⟩, HB8.out.trans (hput.below (Nat.le_refl _))⟩
  exact pair_in ((hput.else_ _ (by omega)).trans G0.out) ((hput.else_ _ (by omega)).trans G1.out) ((hput.else_ _ (by omega)).trans G2.out) ((hput.else_ _ (by omega)).trans G3.out) ((hput.else_ _ (by omega)).trans G4.out) ((hput.else_ _ (by omega)).trans G5.out) ((hput.else_ _ (by omega)).trans G6.out)
end Go.Proofs.Ytlahmcbaiebapaa
