/- Lemmas for the law WorldChecks: TwoA, KindTwo, WPair, WNew, WName. No conditions. -/
import Derived.Test.YtfckbkhnelgjbaaDoorM12
import Derived.Test.YtfckbkhnelgjbaaDoorM02
import Derived.Lib.SmallJoins
import Derived.ChangeArms
import Derived.Test.YtfckbkhnelgjbaaDoorM14
import Derived.Test.YtfckbkhnelgjbaaDoorM18
import Derived.Test.YtfckbkhnelgjbaaDoorM17
import Derived.Test.YtfckbkhnelgjbaaDoorM03
import Derived.Test.YtfckbkhnelgjbaaDoorM05
import Derived.Deep.LoopGhost
import Derived.Lib.ConvBytes
/- tourlaw3.two; a boxed struct of three; a field handed over by value. -/
section
namespace Go.Proofs.YtfckbkhnelgjbaaDoor
open Go.ChangeShapes Go.WideShapes Go.ChangeAt Go.RowKit Go.Nm Go.Mem
set_option linter.unusedVariables false
/-- what two() lays: two fields, two kinds -/
structure TwoAt (W w : World) : Prop where
  bel : Below W.heap.size W w
  f0 : w.heap[W.heap.size]? = some (.cells #[.string ⟨#[120]⟩, .int .i64 3, .int .i64 (-2)] 57 (0, 0))
  f1 : w.heap[W.heap.size + 1]? = some (.cells #[.string ⟨#[120]⟩, .int .i64 8, .int .i64 0] 57 (0, 0))
  k : w.heap[W.heap.size + 1 + 1]? = some (.cells #[.string ⟨#[112, 108, 97, 99, 101]⟩, .slice (some ⟨W.heap.size, 0, none⟩) 1 1, .string ⟨#[108, 105, 102, 101]⟩, .slice (some ⟨W.heap.size + 1, 0, none⟩) 1 1] 55 (0, 0))
theorem two_w (w : World) : Calls Tryd.prog 19 #[] w fun e w' => e = .returned (.slice (some ⟨w.heap.size + 1 + 1, 0, none⟩) 2 2) ∧ TwoAt w w' := by
  go_enter Tryd.func19, Tryd.ntmps19
  go_wp2_with fail
  go_ret
  refine ⟨rfl, (((Below.refl _ _).alloc (Nat.le_refl _) _).alloc (by simp) _).alloc (by simp; omega) _, ?_, ?_, ?_⟩
  · exact heap_keep (heap_keep (heap_alloc_new w _) _) _
  · have := heap_alloc_new (w.alloc (.cells #[.string ⟨#[120]⟩, .int .i64 3, .int .i64 (-2)] 57)) (.cells #[.string ⟨#[120]⟩, .int .i64 8, .int .i64 0] 57)
    exact heap_keep (by simpa using this) _
  · have := heap_alloc_new ((w.alloc (.cells #[.string ⟨#[120]⟩, .int .i64 3, .int .i64 (-2)] 57)).alloc (.cells #[.string ⟨#[120]⟩, .int .i64 8, .int .i64 0] 57)) (.cells #[.string ⟨#[112, 108, 97, 99, 101]⟩, .slice (some ⟨w.heap.size, 0, none⟩) 1 1, .string ⟨#[108, 105, 102, 101]⟩, .slice (some ⟨w.heap.size + 1, 0, none⟩) 1 1] 55)
    simpa using this
/-- the box's cells in a later world -/
theorem box3 {w w2 : World} {a b c : Value} {t : TypeId} (h : Below (w.alloc (.cells #[a, b, c] t)).heap.size (w.alloc (.cells #[a, b, c] t)) w2) :
    w2.cell? ⟨w.heap.size, 0, none⟩ = some a ∧ w2.cell? ⟨w.heap.size, 1, none⟩ = some b ∧ w2.cell? ⟨w.heap.size, 2, none⟩ = some c ∧ Below w.heap.size w w2 := by
  have hh := heap_below (heap_alloc_new w (.cells #[a, b, c] t)) h
  exact ⟨by rw [cell_of_row _ _ 0 _ _ _ hh]; rfl, by rw [cell_of_row _ _ 1 _ _ _ hh]; rfl, by rw [cell_of_row _ _ 2 _ _ _ hh]; rfl, ((Below.refl _ _).alloc (Nat.le_refl _) _).trans (h.mono (by simp))⟩
section
open Go.Joins Go.Deep
variable {H : Type} {enc : TypeId × Value → H} {w : World} {base : Nat} {spare : Nat → Bool} {held : Bool}
set_option maxRecDepth 100000 in
/-- a field handed over by value -/
theorem open_field {r : Reach} {b0 : Nat} {v : Value} {d : DataW H} {p : List MemPlace} (hv : Value.okWide Tryd.prog w r b0 57 v) (h : DataW.Trod enc Tryd.prog w base spare held 57 v d p) :
    ∃ (s : ByteArray) (b l : Int), v = .agg #[.string s, .int .i64 b, .int .i64 l] ∧ s.size ≤ maxLen := by
  obtain ⟨v0, v1, v2, y0, y1, y2, n, rfl, _, _, h0, h1, h2⟩ := open_agg3 Tryd.underlying57 (by kernel_rfl) (by kernel_rfl) hv h
  obtain ⟨s, e0, _, hs⟩ := DataW.trod_string Tryd.underlying9 h0
  obtain ⟨b, e1, _, _⟩ := DataW.trod_int Tryd.underlying3 h1
  obtain ⟨l, e2, _, _⟩ := DataW.trod_int Tryd.underlying3 h2
  injection e0 with e0; injection e1 with e1; injection e2 with e2
  subst e0 e1 e2
  exact ⟨s, b, l, rfl, hs⟩
end
end Go.Proofs.YtfckbkhnelgjbaaDoor
end
/- The law's own first kind: its facts in plain words. -/
section
namespace Go.Proofs.YtfckbkhnelgjbaaDoor
open Go.ChangeShapes Go.WideShapes Go.ChangeAt Go.RowKit Go.Nm Go.Mem
set_option linter.unusedVariables false
def kTwo : KindV := ⟨⟨#[112, 108, 97, 99, 101]⟩, [⟨⟨#[120]⟩, 3, -2⟩]⟩
theorem kTwo_ok : kindE kTwo = 0 := by kernel_rfl
theorem kTwo_fitE : fitE kTwo [9] = 0 := by kernel_rfl
theorem kTwo_fitL : fitL kTwo.fields [9] = [5] := by kernel_rfl
theorem kTwo_at {W w' : World} (h : TwoAt W w') : SlAt 3 FieldAt w' (some ⟨W.heap.size, 0, none⟩) kTwo.fields := by
  obtain ⟨hb, h0, h1, h2⟩ := h
  intro _
  refine ⟨_, rfl, lt_of_heap h0, fun i hi => ?_⟩
  have : i = 0 := by
    have : i < 1 := hi
    omega
  subst this
  refine ⟨?_, ?_, ?_, ?_⟩
  · show w'.cell? ((⟨W.heap.size, 0, none⟩ : Addr).add (0 * 3)) = _
    rw [add_zero_block, cell_of_row _ _ _ _ _ _ h0]; rfl
  · rw [add_zero_block, cell_of_row _ _ _ _ _ _ h0]; rfl
  · rw [add_zero_block, cell_of_row _ _ _ _ _ _ h0]; rfl
  · show ByteArray.size ⟨#[120]⟩ ≤ _; decide
end Go.Proofs.YtfckbkhnelgjbaaDoor
end
/- tourlaw3.pair. -/
section
namespace Go.Proofs.YtfckbkhnelgjbaaDoor
open Go.ChangeShapes Go.WideShapes Go.ChangeAt Go.RowKit Go.Nm Go.Mem
set_option linter.unusedVariables false
def allocs (w : World) : List Obj → World
  | [] => w
  | o :: r => allocs (w.alloc o) r
theorem allocs_below : ∀ (os : List Obj) (w : World), Below w.heap.size w (allocs w os)
  | [], w => Below.refl _ _
  | o :: r, w => ((Below.refl _ _).alloc (Nat.le_refl _) o).trans ((allocs_below r (w.alloc o)).mono (by simp))
theorem allocs_get : ∀ (os : List Obj) (w : World) (i : Nat) (o : Obj), os[i]? = some o → (allocs w os).heap[w.heap.size + i]? = some o
  | [], w, i, o, h => by simp at h
  | x :: r, w, 0, o, h => by
    have h' : x = o := by simpa using h
    subst h'
    exact heap_below (heap_alloc_new w x) (allocs_below r (w.alloc x))
  | x :: r, w, i + 1, o, h => by
    have := allocs_get r (w.alloc x) i o (by simpa using h)
    rw [World.size_alloc] at this
    rw [show w.heap.size + (i + 1) = w.heap.size + 1 + i by omega]
    exact this
def kTwo2 : KindV := ⟨⟨#[108, 105, 102, 101]⟩, [⟨⟨#[120]⟩, 8, 0⟩]⟩
def pairV : WorldV := ⟨[kTwo, kTwo2], [0, 2], [⟨0, 0, [⟨0, [4]⟩, ⟨1, [9]⟩]⟩, ⟨1, 2, [⟨1, [7]⟩]⟩]⟩
theorem pair_ok : checkE pairV = 0 := by kernel_rfl
theorem pair_small : SmallW pairV := by
  refine ⟨by decide, by decide, by decide, ?_⟩
  intro y hy
  unfold pairV at hy
  simp only [List.mem_cons, List.not_mem_nil, or_false] at hy
  rcases hy with rfl | rfl <;> refine ⟨by decide, ?_⟩ <;> intro c hc <;> simp only [List.mem_cons, List.not_mem_nil, or_false] at hc
  · rcases hc with rfl | rfl <;> decide
  · subst hc; decide
theorem fld_one {w : World} {g : Nat} {f : FieldV} (h : w.heap[g]? = some (.cells #[.string f.name, .int .i64 f.bits, .int .i64 f.low] 57 (0, 0))) (hs : f.name.size + 1 ≤ 9223372036854775807) : SlAt 3 FieldAt w (some ⟨g, 0, none⟩) [f] := fun _ => by
  refine ⟨_, rfl, lt_of_heap h, fun i hi => ?_⟩
  have hi2 : i < 1 := hi
  obtain rfl : i = 0 := by omega
  exact ⟨cell_of_row _ _ 0 _ _ _ h, cell_of_row _ _ 1 _ _ _ h, cell_of_row _ _ 2 _ _ _ h, by show f.name.size ≤ _; omega⟩
theorem twos_at {w' : World} {N : Nat} (f0 : w'.heap[N]? = some (.cells #[.string ⟨#[120]⟩, .int .i64 3, .int .i64 (-2)] 57 (0, 0))) (f1 : w'.heap[N + 1]? = some (.cells #[.string ⟨#[120]⟩, .int .i64 8, .int .i64 0] 57 (0, 0)))
    (k : w'.heap[N + 1 + 1]? = some (.cells #[.string ⟨#[112, 108, 97, 99, 101]⟩, .slice (some ⟨N, 0, none⟩) 1 1, .string ⟨#[108, 105, 102, 101]⟩, .slice (some ⟨N + 1, 0, none⟩) 1 1] 55 (0, 0))) : SlAt 2 KindAt w' (some ⟨N + 1 + 1, 0, none⟩) [kTwo, kTwo2] := fun _ => by
  refine ⟨_, rfl, lt_of_heap k, fun i hi => ?_⟩
  have hi2 : i < 2 := hi
  rcases (show i = 0 ∨ i = 1 by omega) with rfl | rfl
  · exact ⟨cell_of_row _ _ 0 _ _ _ k, by show (5 : Nat) ≤ _; omega, _, _, cell_of_row _ _ 1 _ _ _ k, Nat.le_refl _, by omega, fld_one (f := ⟨⟨#[120]⟩, 3, -2⟩) f0 (by show (1 : Nat) + 1 ≤ _; omega)⟩
  · exact ⟨cell_of_row _ _ 2 _ _ _ k, by show (4 : Nat) ≤ _; omega, _, _, cell_of_row _ _ 3 _ _ _ k, Nat.le_refl _, by omega, fld_one (f := ⟨⟨#[120]⟩, 8, 0⟩) f1 (by show (1 : Nat) + 1 ≤ _; omega)⟩
theorem comp_at {w : World} {b q : Nat} {k : Int} {vs : List Int} {a : Option Addr} {c : Nat} (h0 : w.cell? ⟨b, q, none⟩ = some (.int .i64 k)) (h1 : w.cell? ⟨b, q + 1, none⟩ = some (.slice a vs.length c)) (hv : IntsAt .i64 w a vs) : CompAt w ⟨b, q, none⟩ ⟨k, vs⟩ := ⟨h0, a, c, h1, hv⟩
theorem pair_in {w9 : World} {B N : Nat} (hk : SlAt 2 KindAt w9 (some ⟨N, 0, none⟩) [kTwo, kTwo2])
    (g0 : w9.heap[B]? = some (.cells #[.int .i64 0, .int .i64 2] 3 (0, 0))) (g1 : w9.heap[B + 1]? = some (.cells #[.int .i64 4] 3 (0, 0))) (g2 : w9.heap[B + 1 + 1]? = some (.cells #[.int .i64 9] 3 (0, 0)))
    (g3 : w9.heap[B + 1 + 1 + 1]? = some (.cells #[.int .i64 0, .slice (some ⟨B + 1, 0, none⟩) 1 1, .int .i64 1, .slice (some ⟨B + 1 + 1, 0, none⟩) 1 1] 51 (0, 0)))
    (g4 : w9.heap[B + 1 + 1 + 1 + 1]? = some (.cells #[.int .i64 7] 3 (0, 0)))
    (g5 : w9.heap[B + 1 + 1 + 1 + 1 + 1]? = some (.cells #[.int .i64 1, .slice (some ⟨B + 1 + 1 + 1 + 1, 0, none⟩) 1 1] 51 (0, 0)))
    (g6 : w9.heap[B + 1 + 1 + 1 + 1 + 1 + 1]? = some (.cells #[.int .i64 0, .int .i64 0, .slice (some ⟨B + 1 + 1 + 1, 0, none⟩) 2 2, .int .i64 1, .int .i64 2, .slice (some ⟨B + 1 + 1 + 1 + 1 + 1, 0, none⟩) 1 1] 47 (0, 0))) :
    WorldIn w9 (.agg #[.slice (some ⟨N, 0, none⟩) 2 2, .slice (some ⟨B, 0, none⟩) 2 2, .slice (some ⟨B + 1 + 1 + 1 + 1 + 1 + 1, 0, none⟩) 2 2]) pairV := by
  refine ⟨_, _, _, _, _, _, rfl, hk, RowB.ints (k := .i64) (zs := [0, 2]) (show RowB _ _ 3 .i64 [0, 2] from g0), fun _ => ⟨_, rfl, lt_of_heap g6, fun i hi => ?_⟩, by decide, by decide⟩
  have c4 : IntsAt .i64 w9 (some ⟨B + 1, 0, none⟩) [4] := RowB.ints (k := .i64) (zs := [4]) (show RowB _ _ 3 .i64 [4] from g1)
  have c9 : IntsAt .i64 w9 (some ⟨B + 1 + 1, 0, none⟩) [9] := RowB.ints (k := .i64) (zs := [9]) (show RowB _ _ 3 .i64 [9] from g2)
  have c7 : IntsAt .i64 w9 (some ⟨B + 1 + 1 + 1 + 1, 0, none⟩) [7] := RowB.ints (k := .i64) (zs := [7]) (show RowB _ _ 3 .i64 [7] from g4)
  have hi2 : i < 2 := hi
  rcases (show i = 0 ∨ i = 1 by omega) with rfl | rfl
  · refine ⟨cell_of_row _ _ 0 _ _ _ g6, cell_of_row _ _ 1 _ _ _ g6, _, _, cell_of_row _ _ 2 _ _ _ g6, fun _ => ⟨_, rfl, lt_of_heap g3, fun j hj => ?_⟩⟩
    have hj2 : j < 2 := hj
    rcases (show j = 0 ∨ j = 1 by omega) with rfl | rfl
    · exact comp_at (cell_of_row _ _ 0 _ _ _ g3) (cell_of_row _ _ 1 _ _ _ g3) c4
    · exact comp_at (b := B + 1 + 1 + 1) (q := 2) (cell_of_row _ _ 2 _ _ _ g3) (cell_of_row _ _ 3 _ _ _ g3) c9
  · refine ⟨cell_of_row _ _ 3 _ _ _ g6, cell_of_row _ _ 4 _ _ _ g6, _, _, cell_of_row _ _ 5 _ _ _ g6, fun _ => ⟨_, rfl, lt_of_heap g5, fun j hj => ?_⟩⟩
    have hj2 : j < 1 := hj
    obtain rfl : j = 0 := by omega
    exact comp_at (cell_of_row _ _ 0 _ _ _ g5) (cell_of_row _ _ 1 _ _ _ g5) c7
set_option maxHeartbeats 4000000 in
theorem pair_w (w : World) : Calls Tryd.prog 5 #[] w fun e w' => (∃ v, e = .returned v ∧ WorldIn w' v pairV) ∧ Below w.heap.size w w' := by
  go_enter Tryd.func5, Tryd.ntmps5
  go_wp2_with fail
  refine (two_w _).mono ?_
  rintro e w1 ⟨rfl, ht⟩
  obtain ⟨B, hB⟩ : ∃ B, B = w1.heap.size := ⟨_, rfl⟩
  obtain ⟨os, hos⟩ : ∃ os : List Obj, os = [.cells #[.int .i64 0, .int .i64 2] 3 (0, 0), .cells #[.int .i64 4] 3 (0, 0), .cells #[.int .i64 9] 3 (0, 0), .cells #[.int .i64 0, .slice (some ⟨B + 1, 0, none⟩) 1 1, .int .i64 1, .slice (some ⟨B + 1 + 1, 0, none⟩) 1 1] 51 (0, 0), .cells #[.int .i64 7] 3 (0, 0), .cells #[.int .i64 1, .slice (some ⟨B + 1 + 1 + 1 + 1, 0, none⟩) 1 1] 51 (0, 0), .cells #[.int .i64 0, .int .i64 0, .slice (some ⟨B + 1 + 1 + 1, 0, none⟩) 2 2, .int .i64 1, .int .i64 2, .slice (some ⟨B + 1 + 1 + 1 + 1 + 1, 0, none⟩) 1 1] 47 (0, 0)] := ⟨_, rfl⟩
  have hget := fun i o => allocs_get os w1 i o
  rw [← hB] at hget
  have hbel := allocs_below os w1
  have hw0 := heap_below (heap_below (heap_alloc_new w (.cells #[.slice none 0 0, .slice none 0 0, .slice none 0 0] 26 (0, 0))) ht.bel) hbel
  have hbW := ((Below.refl w.heap.size w).alloc (Nat.le_refl _) (.cells #[.slice none 0 0, .slice none 0 0, .slice none 0 0] 26 (0, 0))).trans (ht.bel.mono (by simp))
  have hb8 := bt hbW hbel
  have k0 := heap_below ht.f0 hbel
  have k1 := heap_below ht.f1 hbel
  have k2 := heap_below ht.k hbel
  have hlt : w.heap.size < B := by have := ht.bel.size; rw [← hB] at this; simp at this; omega
  have HT := Lib.hid (show w.heap.size + 1 + 1 + 1 = w.heap.size + 1 + 1 + 1 from rfl)
  have g0 := hget 0 _ (by rw [hos]; rfl)
  have g1 := hget 1 _ (by rw [hos]; rfl)
  have g2 := hget 2 _ (by rw [hos]; rfl)
  have g3 := hget 3 _ (by rw [hos]; rfl)
  have g4 := hget 4 _ (by rw [hos]; rfl)
  have g5 := hget 5 _ (by rw [hos]; rfl)
  have g6 := hget 6 _ (by rw [hos]; rfl)
  have hN : (w.alloc (.cells #[.slice none 0 0, .slice none 0 0, .slice none 0 0] 26 (0, 0))).heap.size = w.heap.size + 1 := by simp
  rw [hN] at k0 k1 k2
  rw [hos, hB] at g0 g1 g2 g3 g4 g5 g6 hw0 hb8 k0 k1 k2
  simp only [allocs] at g0 g1 g2 g3 g4 g5 g6 hw0 hb8 k0 k1 k2
  clear hget hbel hbW ht hN HT hos os
  rw [hB] at hlt
  have G0 := Lib.hid g0
  have G1 := Lib.hid g1
  have G2 := Lib.hid g2
  have G3 := Lib.hid g3
  have G4 := Lib.hid g4
  have G5 := Lib.hid g5
  have G6 := Lib.hid g6
  have HW := Lib.hid hw0
  have HB8 := Lib.hid hb8
  have K0 := Lib.hid k0
  have K1 := Lib.hid k1
  have K2 := Lib.hid k2
  clear g0 g1 g2 g3 g4 g5 g6 hw0 hb8 k0 k1 k2 hB
  go_wp2_with (refine wpList_store_rowP rfl 26 (.tmp 0) (.tmp 15) rfl w.heap.size #[.slice (some ⟨w.heap.size + 1 + 1 + 1, 0, none⟩) 2 2, .slice (some ⟨w1.heap.size, 0, none⟩) 2 2, .slice (some ⟨w1.heap.size + 1 + 1 + 1 + 1 + 1 + 1, 0, none⟩) 2 2] rfl rfl _ _ HW.out (by kernel_rfl) rfl (ones3 _ _ _ rfl rfl rfl) ?_; intro w9 hput; have HPUT := Lib.hid hput; clear hput)
  have hput := HPUT.out
  refine bodyPost_ret (results_cell_row Tryd.results5 _ _ (w.heap.size) 26 _ (0, 0) _ rfl hput.here Tryd.underlying26 rfl (by kernel_rfl)) rfl ⟨⟨_, rfl, ?_⟩, HB8.out.trans (hput.below (Nat.le_refl _))⟩
  exact pair_in (twos_at ((hput.else_ _ (by omega)).trans K0.out) ((hput.else_ _ (by omega)).trans K1.out) ((hput.else_ _ (by omega)).trans K2.out)) ((hput.else_ _ (by omega)).trans G0.out) ((hput.else_ _ (by omega)).trans G1.out) ((hput.else_ _ (by omega)).trans G2.out) ((hput.else_ _ (by omega)).trans G3.out) ((hput.else_ _ (by omega)).trans G4.out) ((hput.else_ _ (by omega)).trans G5.out) ((hput.else_ _ (by omega)).trans G6.out)
end Go.Proofs.YtfckbkhnelgjbaaDoor
end
/- world.New. -/
section
namespace Go.Proofs.YtfckbkhnelgjbaaDoor
open Go.ChangeShapes Go.WideShapes Go.ChangeAt Go.RowKit Go.Nm Go.Mem
set_option linter.unusedVariables false
def newV (l : List KindV) : WorldV := if kindsE l = 0 then ⟨l, [], []⟩ else ⟨[], [], []⟩
set_option maxHeartbeats 4000000 in
theorem world_New (l : List KindV) (a : Option Addr) (n cap : Nat) (hn : l.length = n) (h1 : n ≤ 1048576) (hnc : n ≤ cap) (hcm : cap ≤ 9223372036854775807) (hv : ∀ y ∈ l, y.fields.length ≤ 1048576) (W : World) (hz : SlAt 2 KindAt W a l) :
    Calls Tryd.prog 8 #[.slice a n cap] W fun e w' => (∃ v, e = .returned (.tuple #[v, .int .i64 (kindsE l)]) ∧ WorldIn w' v (newV l)) ∧ Below W.heap.size W w' := by
  obtain ⟨E, hE⟩ : ∃ E, E = kindsE l := ⟨_, rfl⟩
  have hb0 := (Below.refl W.heap.size W).alloc (Nat.le_refl _) (.cells #[.slice none 0 0, .slice none 0 0, .slice none 0 0] 26)
  have HC := Lib.hid (kind_Check l a n cap hn (by omega) hnc hcm _ (hz.below KindAt.abides hb0))
  have HCP := Lib.hid (kind_Copy l a n cap hn (by omega) (fun y hy => by have := hv y hy; omega))
  rw [← hE] at HC ⊢
  have HE := Lib.hid hE
  have HN := Lib.hid hn
  have HZ := Lib.hid hz
  have HB0 := Lib.hid hb0
  clear hE hn hz hb0 hv
  go_enter Tryd.func8, Tryd.ntmps8
  go_wp2_with fail
  refine HC.out.mono ?_
  rintro e w1 ⟨rfl, hb1⟩
  have HB1 := Lib.hid (HB0.out.trans (hb1.mono HB0.out.size))
  have HROW := Lib.hid (heap_below (heap_alloc_new W (.cells #[.slice none 0 0, .slice none 0 0, .slice none 0 0] 26)) hb1)
  clear hb1 HC
  by_cases he : E = 0
  · subst he
    have t0 : ((0 : Int) != 0) = false := rfl
    go_wp2_with fail
    refine (HCP.out _ (HZ.out.below KindAt.abides HB1.out)).mono ?_
    rintro e w2 ⟨⟨a2, rfl, hk⟩, hb2⟩
    have HK := Lib.hid hk
    have HB2 := Lib.hid (HB1.out.trans (hb2.mono HB1.out.size))
    have HROW2 := Lib.hid (heap_below HROW.out hb2)
    clear hk hb2
    go_wp2_with (refine wpList_store_rowP rfl 26 (.tmp 2) (.tmp 13) rfl (W.heap.size) #[.slice a2 n n, .slice none 0 0, .slice none 0 0] rfl rfl _ _ HROW2.out (by kernel_rfl) rfl (ones3 _ _ _ rfl rfl rfl) ?_; intro W9 hput; have HPUT := Lib.hid hput; clear hput)
    refine bodyPost_ret (results_ct Tryd.results8 _ _ W.heap.size 26 _ (0, 0) _ rfl HPUT.out.here Tryd.underlying26 rfl (by kernel_rfl)) rfl ⟨⟨_, rfl, ?_⟩, HB2.out.trans ((HPUT.out.below (Nat.le_refl _)))⟩
    have hg : w2.grownBy W9 (some W.heap.size) := ⟨HPUT.out.os, HPUT.out.tape, HPUT.out.output, by rw [HPUT.out.size]; exact Nat.le_refl _, fun k hk hne => HPUT.out.else_ k (fun e => hne (by rw [e]))⟩
    have hk9 := kinds_gb HK.out (nostr_row HROW2.out nostr_zero) hg
    unfold newV
    rw [← HE.out, if_pos rfl]
    exact ⟨a2, n, none, 0, none, 0, by rw [HN.out]; rfl, hk9, fun h => absurd h (by simp), fun h => absurd h (by simp), by rw [HN.out]; exact Nat.le_refl _, by omega⟩
  · have t0 : (E != 0) = true := by rw [bne_iff_ne]; exact he
    go_wp2_with (refine wpList_store_rowP rfl 26 (.tmp 2) (.tmp 9) rfl (W.heap.size) #[.slice none 0 0, .slice none 0 0, .slice none 0 0] rfl rfl _ _ HROW.out (by kernel_rfl) rfl (ones3 _ _ _ rfl rfl rfl) ?_; intro W9 hput; have HPUT := Lib.hid hput; clear hput)
    refine bodyPost_ret (results_ct Tryd.results8 _ _ W.heap.size 26 _ (0, 0) _ rfl HPUT.out.here Tryd.underlying26 rfl (by kernel_rfl)) rfl ⟨⟨_, rfl, ?_⟩, HB1.out.trans ((HPUT.out.below (Nat.le_refl _)))⟩
    unfold newV
    rw [← HE.out, if_neg he]
    exact ⟨none, 0, none, 0, none, 0, rfl, fun h => absurd h (by simp), fun h => absurd h (by simp), fun h => absurd h (by simp), by simp, by simp⟩
end Go.Proofs.YtfckbkhnelgjbaaDoor
end
/- The closures of world.Ints and of the reference's Described: a name, as numbers. -/
section
namespace Go.Proofs.YtfckbkhnelgjbaaDoor
open Go.ChangeShapes Go.WideShapes Go.ChangeAt Go.RowKit Go.Mem
set_option linter.unusedVariables false
def byteI (s : ByteArray) (i : Nat) : Int := ((s.data.toList.getD i 0).toNat : Int)
def bytesI (s : ByteArray) (k : Nat) : List Int := (List.range k).map (byteI s)
theorem bytesI_succ (s : ByteArray) (k : Nat) : bytesI s (k + 1) = bytesI s k ++ [byteI s k] := by unfold bytesI; rw [List.range_succ, List.map_append]; rfl
theorem bytesI_len (s : ByteArray) (k : Nat) : (bytesI s k).length = k := by unfold bytesI; simp
def nameI (s : ByteArray) : List Int := (s.size : Int) :: bytesI s s.size
theorem nameI_len (s : ByteArray) : (nameI s).length = s.size + 1 := by unfold nameI; rw [List.length_cons, bytesI_len]
theorem byteI_at (s : ByteArray) (i : Nat) (h : i < s.size) : byteI s i = (s[i].toNat : Int) := by
  unfold byteI
  have : s.data.toList.getD i 0 = s[i] := by rw [List.getD_eq_getElem?_getD, List.getElem?_eq_getElem h]; rfl
  rw [this]
theorem idx_str (s : ByteArray) (i : Nat) (h : i < s.size) (h9 : s.size ≤ 9223372036854775807) (w : World) : (Instr.index 9 (.string s) (.int .i64 (i : Int))).run Tryd.prog w = .ok (.int .u8 (byteI s i)) w := by
  rw [byteI_at s i h]
  have i1 : (0 : Int) ≤ (i : Int) := by omega
  have i2 : (i : Int) < (s.size : Int) := by omega
  go_simp
theorem conv_byte (s : ByteArray) (i : Nat) (w : World) : (Go.convert 5 3 (.int .u8 (byteI s i))).run Tryd.prog w = .ok (.int .i64 (byteI s i)) w := by
  have h1 : 0 ≤ byteI s i := by unfold byteI; omega
  have h2 : byteI s i < 256 := by unfold byteI; have := (s.data.toList.getD i 0).toNat_lt; omega
  have h3 : IntKind.i64.wrap (byteI s i) = byteI s i := by rw [IntKind.wrap_i64]; omega
  go_simp
theorem list8 {α : Type} {vs : List α} (h : vs.length = 8) : ∃ x0 x1 x2 x3 x4 x5 x6 x7, vs = [x0, x1, x2, x3, x4, x5, x6, x7] := by
  obtain ⟨x0, t0, rfl, h0⟩ := cons_of h
  obtain ⟨x1, t1, rfl, h1⟩ := cons_of h0
  obtain ⟨x2, t2, rfl, h2⟩ := cons_of h1
  obtain ⟨x3, t3, rfl, h3⟩ := cons_of h2
  obtain ⟨x4, t4, rfl, h4⟩ := cons_of h3
  obtain ⟨x5, t5, rfl, h5⟩ := cons_of h4
  obtain ⟨x6, t6, rfl, h6⟩ := cons_of h5
  obtain ⟨x7, t7, rfl, h7⟩ := cons_of h6
  exact ⟨x0, x1, x2, x3, x4, x5, x6, x7, by rw [List.eq_nil_of_length_eq_zero h7]⟩
def F_nm (X i : Nat) (s : ByteArray) (u : Value) (jq : Nat) (v : Value) (w : World) : Prop :=
  match jq with
  | 0 => v = u
  | 1 => v = .string s
  | 2 => v = .int .i64 i
  | 3 => v = .int .u8 (byteI s i)
  | 4 => v = .int .i64 (byteI s i)
  | 5 => ∃ b, v = .slice (some ⟨b, 0, none⟩) 1 1 ∧ IntsAt .i64 w (some ⟨b, 0, none⟩) [byteI s i]
  | _ => True
theorem F_nm_mono (X i : Nat) (s : ByteArray) (u : Value) : Facts (F_nm X i s u) := ⟨by
  intro jq v w w' h hb
  unfold F_nm at h ⊢
  split at h
  all_goals first
    | exact h
    | (obtain ⟨b, e, h1⟩ := h; exact ⟨b, e, h1.below hb⟩)
    | trivial⟩

set_option maxHeartbeats 8000000 in
theorem ints_name (s : ByteArray) (hs : s.size ≤ 1048576) (B X : Nat) (v : Value) (L : List Int) (w : World) (h : OutV w B X v L) (hL : L.length ≤ 10000000) : Calls Tryd.prog 20 #[.string s, .pointer (some ⟨X, 0, none⟩)] w fun e w' => e = .returned (.tuple #[]) ∧ (∃ v2, OutV w' B X v2 (L ++ nameI s)) ∧ FrX B X w w' := by
  have HX := h.ble
  have H := Lib.hid h
  have c0 := h.cell
  have hnl := hs
  clear h hs
  go_enter Tryd.func20, Tryd.ntmps20
  go_wp2_with (at_builtin; go_must (refine wpList_out rfl _ _ rfl rfl _ _ rfl B X v L rfl (H.out.below ((Below.refl _ _).alloc (Nat.le_refl _) _)) (some ⟨w.heap.size, 0, none⟩) 1 1 [(s.size : Int)] rfl rfl (new_ints1 w s.size) (by omega) (fun u => rfl) (fun u => rfl) ?_); intro v2 w2 hout hfr; have HOUT := Lib.hid hout; have HFR := Lib.hid hfr; clear hout hfr)
  have hf0 := (FrX.of_below HX ((Below.refl w.heap.size w).alloc (Nat.le_refl _) (.cells #[.int .i64 (s.size : Int)] 3))).trans HFR.out
  have HF0 := Lib.hid hf0
  clear HFR hf0 c0
  go_loopg [11, 3] s.size (fun gk v11 _ wx => ∃ (i : Nat) (u : Value), i ≤ s.size ∧ gk = s.size - i ∧ v11 = .int .i64 i ∧ OutV wx B X u (L ++ [(s.size : Int)] ++ bytesI s i) ∧ FrX B X w wx)
  case atStart => exact ⟨0, v2, Nat.zero_le _, rfl, rfl, by rw [show bytesI s 0 = [] from rfl, List.append_nil]; exact HOUT.out, HF0.out⟩
  case round =>
    clear HOUT HF0
    obtain ⟨i, u, i1, i2, rfl, hout, hfr⟩ := hrel
    have I2 := Lib.hid i2
    have HOUT := Lib.hid hout
    have HFR := Lib.hid hfr
    have hxr := hout.ble
    clear i2 hfr
    by_cases hi : i < s.size
    · have C0 := Lib.hid hout.cell
      have HLL : (L ++ [(s.size : Int)] ++ bytesI s i).length = L.length + 1 + i := by rw [List.length_append, bytesI_len, List.length_append, List.length_singleton]
      obtain ⟨LL, hLL⟩ : ∃ LL, LL = L ++ [(s.size : Int)] ++ bytesI s i := ⟨_, rfl⟩
      have hbs := bytesI_succ s i
      rw [← hLL] at HOUT HLL
      have hnx : L ++ [(s.size : Int)] ++ bytesI s (i + 1) = LL ++ [byteI s i] := by rw [hbs, hLL, List.append_assoc, List.append_assoc, List.append_assoc]
      have HNX := Lib.hid hnx
      clear hout hLL hbs hnx
      go_wp2_with fail
      refine wp_region_facts_t rfl 6 (by kernel_rfl) (F_nm X i s u) (F_nm_mono X i s u) ?_ ?_
      · refine ⟨?_, ?_, ?_, ?_, ?_, ?_, trivial⟩
        · intro vs w' F hb hd hF hl hT
          have e := (hF 1).trans (look_out _ 1 _ _ (by kernel_rfl))
          exact one_load _ _ rfl rfl _ _ e (cell_abides C0.out hb) (by kernel_rfl) ⟨_, rfl, Below.refl _ _, rfl⟩
        · intro vs w' F hb hd hF hl hT
          have e := (hF 0).trans (look_out _ 0 _ _ (by kernel_rfl))
          exact one_move _ rfl (by first | exact Or.inl rfl | exact Or.inr rfl) ⟨_, rfl, Below.refl _ _, e⟩
        · intro vs w' F hb hd hF hl hT
          have e := (hF 3).trans (look_out _ 3 _ _ (by kernel_rfl))
          exact one_move _ rfl (by first | exact Or.inl rfl | exact Or.inr rfl) ⟨_, rfl, Below.refl _ _, e⟩
        · intro vs w' F hb hd hF hl hT
          have ex := (((hF 15).trans (look_at _ 15 1 _ _ (by kernel_rfl) (by kernel_rfl) hl)).trans (dep_of (Fact := F_nm X i s u) hd 1 (by kernel_rfl)))
          have ey := (((hF 16).trans (look_at _ 16 2 _ _ (by kernel_rfl) (by kernel_rfl) hl)).trans (dep_of (Fact := F_nm X i s u) hd 2 (by kernel_rfl)))
          exact rg_index 9 _ _ rfl rfl (.string s) (.int .i64 (i : Int)) (.int .u8 (byteI s i)) ex ey (fun w => idx_str s i (by omega) (by omega) w) ⟨_, rfl, Below.refl _ _, rfl⟩
        · intro vs w' F hb hd hF hl hT
          have ex := (((hF 17).trans (look_at _ 17 3 _ _ (by kernel_rfl) (by kernel_rfl) hl)).trans (dep_of (Fact := F_nm X i s u) hd 3 (by kernel_rfl)))
          exact rg_convert 5 3 _ rfl rfl (.int .u8 (byteI s i)) (.int .i64 (byteI s i)) ex (fun w => conv_byte s i w) ⟨_, rfl, Below.refl _ _, rfl⟩
        · intro vs w' F hb hd hF hl hT
          have ex := (((hF 18).trans (look_at _ 18 4 _ _ (by kernel_rfl) (by kernel_rfl) hl)).trans (dep_of (Fact := F_nm X i s u) hd 4 (by kernel_rfl)))
          exact rg_slice1 23 3 _ rfl rfl (byteI s i) ex Tryd.underlying23 (by kernel_rfl) ⟨_, rfl, (Below.refl _ _).alloc (Nat.le_refl _) _, _, rfl, new_ints1 _ _⟩
      · intro vs8 W8 hl hb hI
        obtain ⟨b, hv5, hin⟩ := hI 5 (by omega)
        have hv0 : vs8.getD 0 undef = u := hI 0 (by omega)
        obtain ⟨x0, x1, x2, x3, x4, x5, x6, x7, hvs⟩ := list8 hl
        subst hvs
        replace hv5 : x5 = .slice (some ⟨b, 0, none⟩) 1 1 := hv5
        replace hv0 : x0 = u := hv0
        subst hv5 hv0
        have HO8 := Lib.hid (HOUT.out.below hb)
        have HF8 := Lib.hid (HFR.out.trans (FrX.of_below hxr hb))
        have HIN := Lib.hid hin
        clear hI hl hb hin C0 HFR HOUT
        simp only [fillAll, Act.put, List.setIfInBounds_toArray, List.set_cons_succ, List.set_cons_zero, List.drop_succ_cons, List.drop_zero]
        go_wp2_with (at_builtin; go_must (refine wpList_out rfl _ _ rfl rfl _ _ rfl B X _ LL rfl HO8.out (some ⟨b, 0, none⟩) 1 1 [byteI s i] rfl rfl HIN.out (by omega) (fun u => rfl) (fun u => rfl) ?_); intro v2 w2 hout hfr; have HOUT := Lib.hid hout; have HFR := Lib.hid hfr; clear hout hfr)
        go_roundg (s.size - (i + 1))
        case measure => rw [I2.out]; omega
        case rel => exact ⟨i + 1, _, hi, rfl, by go_num, by rw [HNX.out]; exact HOUT.out, HF8.out.trans HFR.out⟩
    · obtain rfl : i = s.size := by omega
      go_wp2
      go_end0
      exact ⟨rfl, ⟨u, by unfold nameI; have := HOUT.out; rw [List.append_assoc] at this; exact this⟩, HFR.out⟩
set_option maxHeartbeats 8000000 in
theorem desc_name (s : ByteArray) (hs : s.size ≤ 1048576) (B X : Nat) (v : Value) (L : List Int) (w : World) (h : OutV w B X v L) (hL : L.length ≤ 10000000) : Calls Tryd.prog 36 #[.string s, .pointer (some ⟨X, 0, none⟩)] w fun e w' => e = .returned (.tuple #[]) ∧ (∃ v2, OutV w' B X v2 (L ++ nameI s)) ∧ FrX B X w w' := by
  have HX := h.ble
  have H := Lib.hid h
  have c0 := h.cell
  have hnl := hs
  clear h hs
  go_enter Tryd.func36, Tryd.ntmps36
  go_wp2_with (at_builtin; go_must (refine wpList_out rfl _ _ rfl rfl _ _ rfl B X v L rfl (H.out.below ((Below.refl _ _).alloc (Nat.le_refl _) _)) (some ⟨w.heap.size, 0, none⟩) 1 1 [(s.size : Int)] rfl rfl (new_ints1 w s.size) (by omega) (fun u => rfl) (fun u => rfl) ?_); intro v2 w2 hout hfr; have HOUT := Lib.hid hout; have HFR := Lib.hid hfr; have hcv := Lib.run_convert_string_bytes (P := Tryd.prog) w2 9 77 5 s (u := .string) Tryd.underlying9 Tryd.underlying77 Tryd.underlying5; obtain ⟨W1, hW1⟩ : ∃ W1, W1 = Lib.bytesWorld w2 5 s := ⟨_, rfl⟩; rw [← hW1] at hcv; obtain ⟨cp, hcp⟩ : ∃ cp, cp = grownCap w2 s.size 0 5 := ⟨_, rfl⟩; rw [← hcp] at hcv; have HW1 := Lib.hid hW1; clear hout hfr hW1 hcp)
  have hbw : Below w2.heap.size w2 W1 := by rw [HW1.out]; exact Joins.below_bytesWorld _ _ _ _ (Nat.le_refl _)
  have hf0 := (FrX.of_below HX ((Below.refl w.heap.size w).alloc (Nat.le_refl _) (.cells #[.int .i64 (s.size : Int)] 3))).trans HFR.out
  have hX2 := HOUT.out.ble
  have hX3 := HOUT.out.lt
  have HF0 := Lib.hid (hf0.trans (FrX.of_below hX2 hbw))
  have HO1 := Lib.hid (HOUT.out.below hbw)
  have hcell : ∀ i, i < s.size → W1.cell? ⟨w2.heap.size, i, none⟩ = some (.int .u8 (byteI s i)) := fun i hi => by rw [HW1.out]; exact Lib.bytesWorld_cell w2 _ s i hi
  obtain ⟨cs, fr, hrow⟩ : ∃ cs fr, W1.heap[w2.heap.size]? = some (.cells cs 5 fr) := ⟨_, _, by rw [HW1.out]; exact Lib.bytesWorld_at_new w2 _ s⟩
  obtain ⟨G, hG⟩ : ∃ G, G = w2.heap.size := ⟨_, rfl⟩
  rw [← hG] at hcell hrow ⊢
  have hGX : G ≠ X := by omega
  have HCELL := Lib.hid hcell
  have HROW := Lib.hid hrow
  clear hbw hf0 HFR c0 hcv hcell hrow HW1 HOUT hG
  go_loopg [13, 4] s.size (fun gk v13 _ wx => ∃ (i : Nat) (u : Value), i ≤ s.size ∧ gk = s.size - i ∧ v13 = .int .i64 i ∧ OutV wx B X u (L ++ [(s.size : Int)] ++ bytesI s i) ∧ FrX B X w wx ∧ FrX B X W1 wx)
  case atStart => exact ⟨0, v2, Nat.zero_le _, rfl, rfl, by rw [show bytesI s 0 = [] from rfl, List.append_nil]; exact HO1.out, HF0.out, FrX.refl _ _ _⟩
  case round =>
    clear HO1 HF0
    obtain ⟨i, u, i1, i2, rfl, hout, hfr, hfr1⟩ := hrel
    have I2 := Lib.hid i2
    have HOUT := Lib.hid hout
    have HFR := Lib.hid hfr
    have HFR1 := Lib.hid hfr1
    have hxr := hout.ble
    clear i2 hfr
    by_cases hi : i < s.size
    · have c0 := hout.cell
      have c1 : wr.cell? ⟨G, i, none⟩ = some (.int .u8 (byteI s i)) := by
        rw [cell_of_row _ _ _ _ _ _ (hfr1.far G cs _ fr HROW.out (by decide) hGX), ← cell_of_row _ _ i _ _ _ HROW.out]
        exact HCELL.out i hi
      have HLL : (L ++ [(s.size : Int)] ++ bytesI s i).length = L.length + 1 + i := by rw [List.length_append, bytesI_len, List.length_append, List.length_singleton]
      obtain ⟨LL, hLL⟩ : ∃ LL, LL = L ++ [(s.size : Int)] ++ bytesI s i := ⟨_, rfl⟩
      have hbs := bytesI_succ s i
      rw [← hLL] at HOUT HLL
      have hnx : L ++ [(s.size : Int)] ++ bytesI s (i + 1) = LL ++ [byteI s i] := by rw [hbs, hLL, List.append_assoc, List.append_assoc, List.append_assoc]
      have HNX := Lib.hid hnx
      have b1 : 0 ≤ byteI s i := by unfold byteI; omega
      have b2 : byteI s i < 256 := by unfold byteI; have := (s.data.toList.getD i 0).toNat_lt; omega
      obtain ⟨bb, hbb⟩ : ∃ bb, bb = byteI s i := ⟨_, rfl⟩
      rw [← hbb] at c1 b1 b2 HNX
      have hwr : IntKind.i64.wrap bb = bb := by rw [IntKind.wrap_i64]; omega
      clear hout hLL hbs hnx hfr1 hbb
      go_wp2_with (at_builtin; go_must (refine wpList_out rfl _ _ rfl rfl _ _ rfl B X _ LL rfl (HOUT.out.below ((Below.refl _ _).alloc (Nat.le_refl _) _)) (some ⟨wr.heap.size, 0, none⟩) 1 1 [bb] rfl rfl (new_ints1 wr bb) (by omega) (fun u => rfl) (fun u => rfl) ?_); intro v3 w3 hout hfr; have HO3 := Lib.hid hout; have HF3 := Lib.hid hfr; clear hout hfr)
      have hf9 := (FrX.of_below hxr ((Below.refl wr.heap.size wr).alloc (Nat.le_refl _) (.cells #[.int .i64 bb] 3))).trans HF3.out
      go_roundg (s.size - (i + 1))
      case measure => rw [I2.out]; omega
      case rel => exact ⟨i + 1, _, hi, rfl, by go_num, by rw [HNX.out]; exact HO3.out, HFR.out.trans hf9, HFR1.out.trans hf9⟩
    · obtain rfl : i = s.size := by omega
      go_wp2
      go_end0
      exact ⟨rfl, ⟨u, by unfold nameI; have := HOUT.out; rw [List.append_assoc] at this; exact this⟩, HFR.out⟩
end Go.Proofs.YtfckbkhnelgjbaaDoor
end
