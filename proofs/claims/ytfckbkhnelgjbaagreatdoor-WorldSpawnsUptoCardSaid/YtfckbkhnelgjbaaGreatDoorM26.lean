/- Lemmas for the law WorldSpawns: TwoA, KindTwo, WPair, WSpawn. No conditions. -/
import Derived.Test.YtfckbkhnelgjbaaGreatDoorM12
import Derived.Test.YtfckbkhnelgjbaaGreatDoorM01
import Derived.Lib.SmallJoins
import Derived.ChangeArms
import Derived.Test.YtfckbkhnelgjbaaGreatDoorM14
import Derived.Test.YtfckbkhnelgjbaaGreatDoorM25
import Derived.Test.YtfckbkhnelgjbaaGreatDoorM22
import Derived.Test.YtfckbkhnelgjbaaGreatDoorM19
import Derived.Test.YtfckbkhnelgjbaaGreatDoorM23
import Derived.Test.YtfckbkhnelgjbaaGreatDoorM18
/- tourlaw3.two; a boxed struct of three; a field handed over by value. -/
section
namespace Go.Proofs.YtfckbkhnelgjbaaGreatDoor
open Go.ChangeShapes Go.WideShapes Go.ChangeAt Go.RowKit Go.Nm Go.Mem
set_option linter.unusedVariables false
/-- what two() lays: two fields, two kinds -/
structure TwoAt (W w : World) : Prop where
  bel : Below W.heap.size W w
  f0 : w.heap[W.heap.size]? = some (.cells #[.string ⟨#[120]⟩, .int .i64 3, .int .i64 (-2)] 99 (0, 0))
  f1 : w.heap[W.heap.size + 1]? = some (.cells #[.string ⟨#[120]⟩, .int .i64 8, .int .i64 0] 99 (0, 0))
  k : w.heap[W.heap.size + 1 + 1]? = some (.cells #[.string ⟨#[112, 108, 97, 99, 101]⟩, .slice (some ⟨W.heap.size, 0, none⟩) 1 1, .string ⟨#[108, 105, 102, 101]⟩, .slice (some ⟨W.heap.size + 1, 0, none⟩) 1 1] 86 (0, 0))
theorem two_w (w : World) : Calls Tryz.prog 39 #[] w fun e w' => e = .returned (.slice (some ⟨w.heap.size + 1 + 1, 0, none⟩) 2 2) ∧ TwoAt w w' := by
  go_enter Tryz.func39, Tryz.ntmps39
  go_wp2_with fail
  go_ret
  refine ⟨rfl, (((Below.refl _ _).alloc (Nat.le_refl _) _).alloc (by simp) _).alloc (by simp; omega) _, ?_, ?_, ?_⟩
  · exact heap_keep (heap_keep (heap_alloc_new w _) _) _
  · have := heap_alloc_new (w.alloc (.cells #[.string ⟨#[120]⟩, .int .i64 3, .int .i64 (-2)] 99)) (.cells #[.string ⟨#[120]⟩, .int .i64 8, .int .i64 0] 99)
    exact heap_keep (by simpa using this) _
  · have := heap_alloc_new ((w.alloc (.cells #[.string ⟨#[120]⟩, .int .i64 3, .int .i64 (-2)] 99)).alloc (.cells #[.string ⟨#[120]⟩, .int .i64 8, .int .i64 0] 99)) (.cells #[.string ⟨#[112, 108, 97, 99, 101]⟩, .slice (some ⟨w.heap.size, 0, none⟩) 1 1, .string ⟨#[108, 105, 102, 101]⟩, .slice (some ⟨w.heap.size + 1, 0, none⟩) 1 1] 86)
    simpa using this
/-- the box's cells in a later world -/
theorem box3 {w w2 : World} {a b c : Value} {t : TypeId} (h : Below (w.alloc (.cells #[a, b, c] t)).heap.size (w.alloc (.cells #[a, b, c] t)) w2) :
    w2.cell? ⟨w.heap.size, 0, none⟩ = some a ∧ w2.cell? ⟨w.heap.size, 1, none⟩ = some b ∧ w2.cell? ⟨w.heap.size, 2, none⟩ = some c ∧ Below w.heap.size w w2 := by
  have hh := heap_below (heap_alloc_new w (.cells #[a, b, c] t)) h
  exact ⟨by rw [cell_of_row _ _ 0 _ _ _ hh]; rfl, by rw [cell_of_row _ _ 1 _ _ _ hh]; rfl, by rw [cell_of_row _ _ 2 _ _ _ hh]; rfl, ((Below.refl _ _).alloc (Nat.le_refl _) _).trans (h.mono (by simp))⟩
section
open Go.Joins Go.Deep
variable {H : Type} {enc : TypeId × Value → H} {w : World} {base : Nat} {spare : Nat → Bool} {held : Bool}
set_option maxRecDepth 100000 in
/-- a field handed over by value -/
theorem open_field {r : Reach} {b0 : Nat} {v : Value} {d : DataW H} {p : List MemPlace} (hv : Value.okWide Tryz.prog w r b0 99 v) (h : DataW.Trod enc Tryz.prog w base spare held 99 v d p) :
    ∃ (s : ByteArray) (b l : Int), v = .agg #[.string s, .int .i64 b, .int .i64 l] ∧ s.size ≤ maxLen := by
  obtain ⟨v0, v1, v2, y0, y1, y2, n, rfl, _, _, h0, h1, h2⟩ := open_agg3 Tryz.underlying99 (by kernel_rfl) (by kernel_rfl) hv h
  obtain ⟨s, e0, _, hs⟩ := DataW.trod_string Tryz.underlying9 h0
  obtain ⟨b, e1, _, _⟩ := DataW.trod_int Tryz.underlying3 h1
  obtain ⟨l, e2, _, _⟩ := DataW.trod_int Tryz.underlying3 h2
  injection e0 with e0; injection e1 with e1; injection e2 with e2
  subst e0 e1 e2
  exact ⟨s, b, l, rfl, hs⟩
end
end Go.Proofs.YtfckbkhnelgjbaaGreatDoor
end
/- The law's own first kind: its facts in plain words. -/
section
namespace Go.Proofs.YtfckbkhnelgjbaaGreatDoor
open Go.ChangeShapes Go.WideShapes Go.ChangeAt Go.RowKit Go.Nm Go.Mem
set_option linter.unusedVariables false
def kTwo : KindV := ⟨⟨#[112, 108, 97, 99, 101]⟩, [⟨⟨#[120]⟩, 3, -2⟩]⟩
theorem kTwo_ok : kindE kTwo = 0 := by kernel_rfl
theorem kTwo_fitE : fitE kTwo [9] = 0 := by kernel_rfl
theorem kTwo_fitL : fitL kTwo.fields [9] = [5] := by kernel_rfl
theorem kTwo_at {W w' : World} (h : TwoAt W w') : SlAt 3 FieldAt w' (some ⟨W.heap.size, 0, none⟩) kTwo.fields := by
  obtain ⟨hb, h0, h1, h2⟩ := h
  intro _
  refine ⟨_, rfl, lt_of_heap h0, fun i hi => ?_⟩
  have : i = 0 := by
    have : i < 1 := hi
    omega
  subst this
  refine ⟨?_, ?_, ?_, ?_⟩
  · show w'.cell? ((⟨W.heap.size, 0, none⟩ : Addr).add (0 * 3)) = _
    rw [add_zero_block, cell_of_row _ _ _ _ _ _ h0]; rfl
  · rw [add_zero_block, cell_of_row _ _ _ _ _ _ h0]; rfl
  · rw [add_zero_block, cell_of_row _ _ _ _ _ _ h0]; rfl
  · show ByteArray.size ⟨#[120]⟩ ≤ _; decide
end Go.Proofs.YtfckbkhnelgjbaaGreatDoor
end
/- tourlaw3.pair. -/
section
namespace Go.Proofs.YtfckbkhnelgjbaaGreatDoor
open Go.ChangeShapes Go.WideShapes Go.ChangeAt Go.RowKit Go.Nm Go.Mem
set_option linter.unusedVariables false
def allocs (w : World) : List Obj → World
  | [] => w
  | o :: r => allocs (w.alloc o) r
theorem allocs_below : ∀ (os : List Obj) (w : World), Below w.heap.size w (allocs w os)
  | [], w => Below.refl _ _
  | o :: r, w => ((Below.refl _ _).alloc (Nat.le_refl _) o).trans ((allocs_below r (w.alloc o)).mono (by simp))
theorem allocs_get : ∀ (os : List Obj) (w : World) (i : Nat) (o : Obj), os[i]? = some o → (allocs w os).heap[w.heap.size + i]? = some o
  | [], w, i, o, h => by simp at h
  | x :: r, w, 0, o, h => by
    have h' : x = o := by simpa using h
    subst h'
    exact heap_below (heap_alloc_new w x) (allocs_below r (w.alloc x))
  | x :: r, w, i + 1, o, h => by
    have := allocs_get r (w.alloc x) i o (by simpa using h)
    rw [World.size_alloc] at this
    rw [show w.heap.size + (i + 1) = w.heap.size + 1 + i by omega]
    exact this
def kTwo2 : KindV := ⟨⟨#[108, 105, 102, 101]⟩, [⟨⟨#[120]⟩, 8, 0⟩]⟩
def pairV : WorldV := ⟨[kTwo, kTwo2], [0, 2], [⟨0, 0, [⟨0, [4]⟩, ⟨1, [9]⟩]⟩, ⟨1, 2, [⟨1, [7]⟩]⟩]⟩
theorem pair_ok : checkE pairV = 0 := by kernel_rfl
theorem pair_small : SmallW pairV := by
  refine ⟨by decide, by decide, by decide, ?_⟩
  intro y hy
  unfold pairV at hy
  simp only [List.mem_cons, List.not_mem_nil, or_false] at hy
  rcases hy with rfl | rfl <;> refine ⟨by decide, ?_⟩ <;> intro c hc <;> simp only [List.mem_cons, List.not_mem_nil, or_false] at hc
  · rcases hc with rfl | rfl <;> decide
  · subst hc; decide
theorem fld_one {w : World} {g : Nat} {f : FieldV} (h : w.heap[g]? = some (.cells #[.string f.name, .int .i64 f.bits, .int .i64 f.low] 99 (0, 0))) (hs : f.name.size + 1 ≤ 9223372036854775807) : SlAt 3 FieldAt w (some ⟨g, 0, none⟩) [f] := fun _ => by
  refine ⟨_, rfl, lt_of_heap h, fun i hi => ?_⟩
  have hi2 : i < 1 := hi
  obtain rfl : i = 0 := by omega
  exact ⟨cell_of_row _ _ 0 _ _ _ h, cell_of_row _ _ 1 _ _ _ h, cell_of_row _ _ 2 _ _ _ h, by show f.name.size ≤ _; omega⟩
theorem twos_at {w' : World} {N : Nat} (f0 : w'.heap[N]? = some (.cells #[.string ⟨#[120]⟩, .int .i64 3, .int .i64 (-2)] 99 (0, 0))) (f1 : w'.heap[N + 1]? = some (.cells #[.string ⟨#[120]⟩, .int .i64 8, .int .i64 0] 99 (0, 0)))
    (k : w'.heap[N + 1 + 1]? = some (.cells #[.string ⟨#[112, 108, 97, 99, 101]⟩, .slice (some ⟨N, 0, none⟩) 1 1, .string ⟨#[108, 105, 102, 101]⟩, .slice (some ⟨N + 1, 0, none⟩) 1 1] 86 (0, 0))) : SlAt 2 KindAt w' (some ⟨N + 1 + 1, 0, none⟩) [kTwo, kTwo2] := fun _ => by
  refine ⟨_, rfl, lt_of_heap k, fun i hi => ?_⟩
  have hi2 : i < 2 := hi
  rcases (show i = 0 ∨ i = 1 by omega) with rfl | rfl
  · exact ⟨cell_of_row _ _ 0 _ _ _ k, by show (5 : Nat) ≤ _; omega, _, _, cell_of_row _ _ 1 _ _ _ k, Nat.le_refl _, by omega, fld_one (f := ⟨⟨#[120]⟩, 3, -2⟩) f0 (by show (1 : Nat) + 1 ≤ _; omega)⟩
  · exact ⟨cell_of_row _ _ 2 _ _ _ k, by show (4 : Nat) ≤ _; omega, _, _, cell_of_row _ _ 3 _ _ _ k, Nat.le_refl _, by omega, fld_one (f := ⟨⟨#[120]⟩, 8, 0⟩) f1 (by show (1 : Nat) + 1 ≤ _; omega)⟩
theorem comp_at {w : World} {b q : Nat} {k : Int} {vs : List Int} {a : Option Addr} {c : Nat} (h0 : w.cell? ⟨b, q, none⟩ = some (.int .i64 k)) (h1 : w.cell? ⟨b, q + 1, none⟩ = some (.slice a vs.length c)) (hv : IntsAt .i64 w a vs) : CompAt w ⟨b, q, none⟩ ⟨k, vs⟩ := ⟨h0, a, c, h1, hv⟩
theorem pair_in {w9 : World} {B N : Nat} (hk : SlAt 2 KindAt w9 (some ⟨N, 0, none⟩) [kTwo, kTwo2])
    (g0 : w9.heap[B]? = some (.cells #[.int .i64 0, .int .i64 2] 3 (0, 0))) (g1 : w9.heap[B + 1]? = some (.cells #[.int .i64 4] 3 (0, 0))) (g2 : w9.heap[B + 1 + 1]? = some (.cells #[.int .i64 9] 3 (0, 0)))
    (g3 : w9.heap[B + 1 + 1 + 1]? = some (.cells #[.int .i64 0, .slice (some ⟨B + 1, 0, none⟩) 1 1, .int .i64 1, .slice (some ⟨B + 1 + 1, 0, none⟩) 1 1] 42 (0, 0)))
    (g4 : w9.heap[B + 1 + 1 + 1 + 1]? = some (.cells #[.int .i64 7] 3 (0, 0)))
    (g5 : w9.heap[B + 1 + 1 + 1 + 1 + 1]? = some (.cells #[.int .i64 1, .slice (some ⟨B + 1 + 1 + 1 + 1, 0, none⟩) 1 1] 42 (0, 0)))
    (g6 : w9.heap[B + 1 + 1 + 1 + 1 + 1 + 1]? = some (.cells #[.int .i64 0, .int .i64 0, .slice (some ⟨B + 1 + 1 + 1, 0, none⟩) 2 2, .int .i64 1, .int .i64 2, .slice (some ⟨B + 1 + 1 + 1 + 1 + 1, 0, none⟩) 1 1] 61 (0, 0))) :
    WorldIn w9 (.agg #[.slice (some ⟨N, 0, none⟩) 2 2, .slice (some ⟨B, 0, none⟩) 2 2, .slice (some ⟨B + 1 + 1 + 1 + 1 + 1 + 1, 0, none⟩) 2 2]) pairV := by
  refine ⟨_, _, _, _, _, _, rfl, hk, RowB.ints (k := .i64) (zs := [0, 2]) (show RowB _ _ 3 .i64 [0, 2] from g0), fun _ => ⟨_, rfl, lt_of_heap g6, fun i hi => ?_⟩, by decide, by decide⟩
  have c4 : IntsAt .i64 w9 (some ⟨B + 1, 0, none⟩) [4] := RowB.ints (k := .i64) (zs := [4]) (show RowB _ _ 3 .i64 [4] from g1)
  have c9 : IntsAt .i64 w9 (some ⟨B + 1 + 1, 0, none⟩) [9] := RowB.ints (k := .i64) (zs := [9]) (show RowB _ _ 3 .i64 [9] from g2)
  have c7 : IntsAt .i64 w9 (some ⟨B + 1 + 1 + 1 + 1, 0, none⟩) [7] := RowB.ints (k := .i64) (zs := [7]) (show RowB _ _ 3 .i64 [7] from g4)
  have hi2 : i < 2 := hi
  rcases (show i = 0 ∨ i = 1 by omega) with rfl | rfl
  · refine ⟨cell_of_row _ _ 0 _ _ _ g6, cell_of_row _ _ 1 _ _ _ g6, _, _, cell_of_row _ _ 2 _ _ _ g6, fun _ => ⟨_, rfl, lt_of_heap g3, fun j hj => ?_⟩⟩
    have hj2 : j < 2 := hj
    rcases (show j = 0 ∨ j = 1 by omega) with rfl | rfl
    · exact comp_at (cell_of_row _ _ 0 _ _ _ g3) (cell_of_row _ _ 1 _ _ _ g3) c4
    · exact comp_at (b := B + 1 + 1 + 1) (q := 2) (cell_of_row _ _ 2 _ _ _ g3) (cell_of_row _ _ 3 _ _ _ g3) c9
  · refine ⟨cell_of_row _ _ 3 _ _ _ g6, cell_of_row _ _ 4 _ _ _ g6, _, _, cell_of_row _ _ 5 _ _ _ g6, fun _ => ⟨_, rfl, lt_of_heap g5, fun j hj => ?_⟩⟩
    have hj2 : j < 1 := hj
    obtain rfl : j = 0 := by omega
    exact comp_at (cell_of_row _ _ 0 _ _ _ g5) (cell_of_row _ _ 1 _ _ _ g5) c7
set_option maxHeartbeats 4000000 in
theorem pair_w (w : World) : Calls Tryz.prog 6 #[] w fun e w' => (∃ v, e = .returned v ∧ WorldIn w' v pairV) ∧ Below w.heap.size w w' := by
  go_enter Tryz.func6, Tryz.ntmps6
  go_wp2_with fail
  refine (two_w _).mono ?_
  rintro e w1 ⟨rfl, ht⟩
  obtain ⟨B, hB⟩ : ∃ B, B = w1.heap.size := ⟨_, rfl⟩
  obtain ⟨os, hos⟩ : ∃ os : List Obj, os = [.cells #[.int .i64 0, .int .i64 2] 3 (0, 0), .cells #[.int .i64 4] 3 (0, 0), .cells #[.int .i64 9] 3 (0, 0), .cells #[.int .i64 0, .slice (some ⟨B + 1, 0, none⟩) 1 1, .int .i64 1, .slice (some ⟨B + 1 + 1, 0, none⟩) 1 1] 42 (0, 0), .cells #[.int .i64 7] 3 (0, 0), .cells #[.int .i64 1, .slice (some ⟨B + 1 + 1 + 1 + 1, 0, none⟩) 1 1] 42 (0, 0), .cells #[.int .i64 0, .int .i64 0, .slice (some ⟨B + 1 + 1 + 1, 0, none⟩) 2 2, .int .i64 1, .int .i64 2, .slice (some ⟨B + 1 + 1 + 1 + 1 + 1, 0, none⟩) 1 1] 61 (0, 0)] := ⟨_, rfl⟩
  have hget := fun i o => allocs_get os w1 i o
  rw [← hB] at hget
  have hbel := allocs_below os w1
  have hw0 := heap_below (heap_below (heap_alloc_new w (.cells #[.slice none 0 0, .slice none 0 0, .slice none 0 0] 26 (0, 0))) ht.bel) hbel
  have hbW := ((Below.refl w.heap.size w).alloc (Nat.le_refl _) (.cells #[.slice none 0 0, .slice none 0 0, .slice none 0 0] 26 (0, 0))).trans (ht.bel.mono (by simp))
  have hb8 := bt hbW hbel
  have k0 := heap_below ht.f0 hbel
  have k1 := heap_below ht.f1 hbel
  have k2 := heap_below ht.k hbel
  have hlt : w.heap.size < B := by have := ht.bel.size; rw [← hB] at this; simp at this; omega
  have HT := Lib.hid (show w.heap.size + 1 + 1 + 1 = w.heap.size + 1 + 1 + 1 from rfl)
  have g0 := hget 0 _ (by rw [hos]; rfl)
  have g1 := hget 1 _ (by rw [hos]; rfl)
  have g2 := hget 2 _ (by rw [hos]; rfl)
  have g3 := hget 3 _ (by rw [hos]; rfl)
  have g4 := hget 4 _ (by rw [hos]; rfl)
  have g5 := hget 5 _ (by rw [hos]; rfl)
  have g6 := hget 6 _ (by rw [hos]; rfl)
  have hN : (w.alloc (.cells #[.slice none 0 0, .slice none 0 0, .slice none 0 0] 26 (0, 0))).heap.size = w.heap.size + 1 := by simp
  rw [hN] at k0 k1 k2
  rw [hos, hB] at g0 g1 g2 g3 g4 g5 g6 hw0 hb8 k0 k1 k2
  simp only [allocs] at g0 g1 g2 g3 g4 g5 g6 hw0 hb8 k0 k1 k2
  clear hget hbel hbW ht hN HT hos os
  rw [hB] at hlt
  have G0 := Lib.hid g0
  have G1 := Lib.hid g1
  have G2 := Lib.hid g2
  have G3 := Lib.hid g3
  have G4 := Lib.hid g4
  have G5 := Lib.hid g5
  have G6 := Lib.hid g6
  have HW := Lib.hid hw0
  have HB8 := Lib.hid hb8
  have K0 := Lib.hid k0
  have K1 := Lib.hid k1
  have K2 := Lib.hid k2
  clear g0 g1 g2 g3 g4 g5 g6 hw0 hb8 k0 k1 k2 hB
  go_wp2_with (refine wpList_store_rowP rfl 26 (.tmp 0) (.tmp 15) rfl w.heap.size #[.slice (some ⟨w.heap.size + 1 + 1 + 1, 0, none⟩) 2 2, .slice (some ⟨w1.heap.size, 0, none⟩) 2 2, .slice (some ⟨w1.heap.size + 1 + 1 + 1 + 1 + 1 + 1, 0, none⟩) 2 2] rfl rfl _ _ HW.out (by kernel_rfl) rfl (ones3 _ _ _ rfl rfl rfl) ?_; intro w9 hput; have HPUT := Lib.hid hput; clear hput)
  have hput := HPUT.out
  refine bodyPost_ret (results_cell_row Tryz.results6 _ _ (w.heap.size) 26 _ (0, 0) _ rfl hput.here Tryz.underlying26 rfl (by kernel_rfl)) rfl ⟨⟨_, rfl, ?_⟩, HB8.out.trans (hput.below (Nat.le_refl _))⟩
  exact pair_in (twos_at ((hput.else_ _ (by omega)).trans K0.out) ((hput.else_ _ (by omega)).trans K1.out) ((hput.else_ _ (by omega)).trans K2.out)) ((hput.else_ _ (by omega)).trans G0.out) ((hput.else_ _ (by omega)).trans G1.out) ((hput.else_ _ (by omega)).trans G2.out) ((hput.else_ _ (by omega)).trans G3.out) ((hput.else_ _ (by omega)).trans G4.out) ((hput.else_ _ (by omega)).trans G5.out) ((hput.else_ _ (by omega)).trans G6.out)
end Go.Proofs.YtfckbkhnelgjbaaGreatDoor
end
/- world.Spawn. -/
section
namespace Go.Proofs.YtfckbkhnelgjbaaGreatDoor
open Go.ChangeShapes Go.WideShapes Go.ChangeAt Go.RowKit Go.Nm Go.Mem
set_option linter.unusedVariables false
theorem results_cct {P : Program} {fn : Func} {p q a : Tmp} {ty tz : TypeId} (h : fn.results = #[.cell p ty, .cell q tz, .tmp a]) (tmps : Array Value) (w : World) (g g2 : Nat) (t t2 : TypeId) (cs cs2 : Array Value) (fr fr2 : Nat × Nat) (d d2 : TypeDesc)
    (hp : tmps.getD p undef = .pointer (some ⟨g, 0, none⟩)) (hg : w.heap[g]? = some (.cells cs t fr))
    (hu : P.underlying ty = some d) (hd : (match d with | .struct _ | .array _ _ => true | _ => false) = true) (hi : (P.info? ty).map (·.size) = some cs.size)
    (hp2 : tmps.getD q undef = .pointer (some ⟨g2, 0, none⟩)) (hg2 : w.heap[g2]? = some (.cells cs2 t2 fr2))
    (hu2 : P.underlying tz = some d2) (hd2 : (match d2 with | .struct _ | .array _ _ => true | _ => false) = true) (hi2 : (P.info? tz).map (·.size) = some cs2.size) :
    (results fn tmps).run P w = .ok (.tuple #[.agg cs, .agg cs2, tmps.getD a undef]) w := by
  have hp' : tmps[p]?.getD undef = .pointer (some ⟨g, 0, none⟩) := by simpa using hp
  have hp2' : tmps[q]?.getD undef = .pointer (some ⟨g2, 0, none⟩) := by simpa using hp2
  simp [results, h, hp', hp2', asAddr, run_loadVar_row w g t ty cs fr d hg hu hd hi, run_loadVar_row w g2 t2 tz cs2 fr2 d2 hg2 hu2 hd2 hi2]
def spawnE (y : WorldV) (l : List CompV) : Int := if checkE y ≠ 0 then checkE y else if fitAllE y.kinds l ≠ 0 then fitAllE y.kinds l else if freeOk y = false then 6 else 0
def spawnG (y : WorldV) : List Int := if freeN y = y.gens.length then y.gens ++ [0] else y.gens
def spawnI (y : WorldV) (l : List CompV) : ItemV := ⟨(freeN y : Int), (spawnG y).getD (freeN y) 0, listed (fitAllM y.kinds l)⟩
def SpawnZ (y : WorldV) (l : List CompV) (Z : WorldV) : Prop := ∃ i, i ≤ y.items.length ∧ (∀ j (h : j < y.items.length), j < i → y.items[j].n < (freeN y : Int)) ∧ (∀ j (h : j < y.items.length), i ≤ j → (freeN y : Int) ≤ y.items[j].n) ∧ Z = ⟨y.kinds, spawnG y, y.items.take i ++ [spawnI y l] ++ y.items.drop i⟩
def SpawnR (y : WorldV) (l : List CompV) (E : Int) (W : World) (e : Ending) (w' : World) : Prop :=
  (∃ (v : Value) (xn xg : Int) (Z : WorldV), e = .returned (.tuple #[v, .agg #[.int .i64 xn, .int .i64 xg], .int .i64 E]) ∧ WorldIn w' v Z ∧ (E ≠ 0 → xn = 0 ∧ xg = 0 ∧ Z = ⟨[], [], []⟩) ∧ (E = 0 → xn = (spawnI y l).n ∧ xg = (spawnI y l).gen ∧ SpawnZ y l Z)) ∧ Below W.heap.size W w'
theorem SpawnR.bad {y : WorldV} {l : List CompV} {E F : Int} {W w' : World} {e : Ending} (hf : F = E) (h : E ≠ 0) (he : e = .returned (.tuple #[.agg #[.slice none 0 0, .slice none 0 0, .slice none 0 0], .agg #[.int .i64 0, .int .i64 0], .int .i64 E])) (hb : Below W.heap.size W w') : SpawnR y l F W e w' := by
  subst hf
  exact ⟨⟨_, 0, 0, ⟨[], [], []⟩, he, ⟨none, 0, none, 0, none, 0, rfl, fun h => absurd h (by simp), fun h => absurd h (by simp), fun h => absurd h (by simp), by simp, by simp⟩, fun _ => ⟨rfl, rfl, rfl⟩, fun h0 => absurd h0 h⟩, hb⟩
theorem SpawnR.good {y : WorldV} {l : List CompV} {E : Int} {W w' : World} {v : Value} {xn xg : Int} {Z : WorldV} (hE : 0 = E) (h1 : xn = (spawnI y l).n) (h2 : xg = (spawnI y l).gen) (hz : SpawnZ y l Z) (hw : WorldIn w' v Z) (hb : Below W.heap.size W w') : SpawnR y l E W (.returned (.tuple #[v, .agg #[.int .i64 xn, .int .i64 xg], .int .i64 0])) w' := by
  subst hE
  exact ⟨⟨v, xn, xg, Z, rfl, hw, fun h => absurd rfl h, fun _ => ⟨h1, h2, hz⟩⟩, hb⟩
theorem spawn_grow {w w' : World} {o : Obj} {X : Nat} {cs : Array Value} {t : TypeId} {row : Option Nat} (h : w.heap[X]? = some (.cells cs t (0, 0))) (hg : (w.alloc o).grownBy w' row) {B : Nat} (hr : ∀ r, row = some r → B ≤ r) (hX : X < B) : w'.cell? ⟨X, 1, none⟩ = cs[1]? ∧ w'.frozen? ⟨X, 1, none⟩ = false := by
  have h2 : w'.heap[X]? = some (.cells cs t (0, 0)) := (hg.block X (by rw [World.size_alloc]; have := lt_of_heap h; omega) (fun e => by have := hr X e.symm; omega)).trans (heap_keep h o)
  exact ⟨cell_of_row _ _ 1 _ _ _ h2, Mem.frozen_of_row h2 1⟩
/-- the state behind the copy: W the start, s1 .. s2 where the fitted components lie, s3 where the copy began, S beyond its rows -/
structure SpC (y : WorldV) (l : List CompV) (W : World) (s1 s2 s3 S G : Nat) (fa kk : Option Addr) (nk ni : Nat) (vg : Value) (n : Nat) (L : List Int) (wc : World) : Prop where
  row : wc.heap[W.heap.size]? = some (.cells #[.slice kk nk nk, vg, .slice (some ⟨G, 0, none⟩) ni ni] 26 (0, 0))
  kinds : SlAt 2 KindAt wc kk y.kinds
  gens : wc.ownsRow s3 3 1 vg n (vints .i64 L)
  blk : Blk wc G 61 (ni * 3)
  items : ∀ j (h : j < y.items.length), ItemNew G S wc (j * 3) y.items[j]
  r4 : wc.heap[W.heap.size + 1]? = some (.cells #[.slice none 0 0, .slice none 0 0, .slice none 0 0] 26 (0, 0))
  r5 : wc.heap[W.heap.size + 1 + 1]? = some (.cells #[.int .i64 0, .int .i64 0] 29 (0, 0))
  bel : Below W.heap.size W wc
  comps : Win s1 s2 (fun w => SlAt 2 CompAt w fa (listed (fitAllM y.kinds l))) wc
  o1 : W.heap.size + 1 + 1 < s1
  o2 : s1 ≤ s2
  o3 : s2 ≤ s3
  o4 : s3 ≤ G
  o5 : G < S
theorem SpC.below {y : WorldV} {l : List CompV} {W : World} {s1 s2 s3 S G : Nat} {fa kk : Option Addr} {nk ni : Nat} {vg : Value} {n : Nat} {L : List Int} {w w' : World} (h : SpC y l W s1 s2 s3 S G fa kk nk ni vg n L w) (hb : Below w.heap.size w w') : SpC y l W s1 s2 s3 S G fa kk nk ni vg n L w' :=
  ⟨heap_below h.row hb, h.kinds.below KindAt.abides hb, own_below h.gens hb, h.blk.below hb, fun j hj => (h.items j hj).below hb, heap_below h.r4 hb, heap_below h.r5 hb, bt h.bel hb, h.comps.to (Nat.le_trans h.comps.1 hb.size) (fun g _ g2 => hb.block g (Nat.lt_of_lt_of_le g2 h.comps.1)), h.o1, h.o2, h.o3, h.o4, h.o5⟩
theorem nostr_vrow (a c : Option Addr) (n1 n3 c1 c3 : Nat) (v : Value) (hv : ∃ b n2 c2, v = .slice b n2 c2) (j : Nat) (s : ByteArray) : (#[Value.slice a n1 c1, v, .slice c n3 c3] : Array Value)[j]? ≠ some (Value.string s) := by
  obtain ⟨b, n2, c2, rfl⟩ := hv
  exact nostr_row3 a b c n1 n2 n3 c1 c2 c3 j s
theorem SpC.grow {y : WorldV} {l : List CompV} {W : World} {s1 s2 s3 S G : Nat} {fa kk : Option Addr} {nk ni : Nat} {vg : Value} {n : Nat} {L : List Int} {w5 : World} (h : SpC y l W s1 s2 s3 S G fa kk nk ni vg n L w5) (hno : ∀ g, vg.ownBlock = some g → g < S ∧ NoStr w5 g)
    {v6 : Value} {n6 : Nat} {L6 : List Int} {w6 : World} (hg : w5.grownBy w6 vg.ownBlock) (ho : w6.ownsRow s3 3 1 v6 n6 (vints .i64 L6)) : SpC y l W s1 s2 s3 S G fa kk nk ni v6 n6 L6 (w6.setCell ⟨W.heap.size, 1, none⟩ v6) := by
  have o1 := h.o1
  have o2 := h.o2
  have o3 := h.o3
  have o4 := h.o4
  have o5 := h.o5
  have hrl : ∀ r, vg.ownBlock = some r → s3 ≤ r ∧ r < w5.heap.size := fun r hr => own_lt h.gens r hr
  have hvs : ∃ b n2 c2, vg = .slice b n2 c2 := by obtain ⟨a, c, e⟩ := own_slice h.gens; exact ⟨a, n, c, e⟩
  have hr6 : w6.heap[W.heap.size]? = some (.cells #[.slice kk nk nk, vg, .slice (some ⟨G, 0, none⟩) ni ni] 26 (0, 0)) := (hg.block _ (lt_of_heap h.row) (fun e => by have := (hrl _ e.symm).1; omega)).trans h.row
  have hgc : w6.grownBy (w6.setCell ⟨W.heap.size, 1, none⟩ v6) (some W.heap.size) := gb_set (World.grownBy.refl _ _) 1 _
  have hk6 : SlAt 2 KindAt w6 kk y.kinds := by
    cases hv : vg.ownBlock with
    | none =>
      rw [hv] at hg
      exact h.kinds.below KindAt.abides ⟨hg.os, hg.tape, hg.output, hg.size, fun k hk => hg.block k hk (by simp)⟩
    | some r =>
      rw [hv] at hg
      exact kinds_gb h.kinds (hno r hv).2 hg
  obtain ⟨cs, hb1, hb2⟩ := h.blk
  have hG6 : w6.heap[G]? = some (.cells cs 61 (0, 0)) := (hg.block _ (lt_of_heap hb1) (fun e => own_ne h.gens e.symm hb1 (by decide) rfl)).trans hb1
  have far : ∀ k, k ≠ W.heap.size → (w6.setCell ⟨W.heap.size, 1, none⟩ v6).heap[k]? = w6.heap[k]? := fun k hk => Below.heap_setCell w6 ⟨W.heap.size, 1, none⟩ v6 k hk
  refine ⟨Mem.heap_set hr6 1 _, kinds_gb hk6 (nostr_row hr6 (nostr_vrow _ _ _ _ _ _ _ hvs)) hgc, own_gb ho hr6 (by decide) hgc, ⟨cs, (far _ (by omega)).trans hG6, hb2⟩, fun j hj => ?_, ?_, ?_, ?_, ?_, o1, o2, o3, o4, o5⟩
  · obtain ⟨p1, p2, a, c, p3, p4⟩ := h.items j hj
    have cg : ∀ q u, w5.cell? ⟨G, q, none⟩ = some u → (w6.setCell ⟨W.heap.size, 1, none⟩ v6).cell? ⟨G, q, none⟩ = some u := fun q u hu => by
      rw [World.cell?_of_block (w := w6) (far G (by omega)), World.cell?_of_block (w := w5) (show w6.heap[G]? = w5.heap[G]? by rw [hG6, hb1])]
      exact hu
    exact ⟨cg _ _ p1, cg _ _ p2, a, c, cg _ _ p3, (p4.grown hg (fun r hr => (hno r hr).1)).set _ _ (by show W.heap.size < S; omega)⟩
  · exact (far _ (by omega)).trans ((hg.block _ (lt_of_heap h.r4) (fun e => by have := (hrl _ e.symm).1; omega)).trans h.r4)
  · exact (far _ (by omega)).trans ((hg.block _ (lt_of_heap h.r5) (fun e => by have := (hrl _ e.symm).1; omega)).trans h.r5)
  · exact (h.bel.grown hg h.bel.size (fun r hr => by have := (hrl r hr).1; omega)).setCell (p := ⟨W.heap.size, 1, none⟩) (Nat.le_refl _) _
  · refine h.comps.to (by have := h.comps.1; have := hg.size; rw [World.size_setCell]; omega) (fun g g1 g2 => (far g (by omega)).trans (hg.block g (Nat.lt_of_lt_of_le g2 h.comps.1) (fun e => by have := (hrl _ e.symm).1; omega)))
theorem checkE_kinds {y : WorldV} (h : checkE y = 0) : kindsE y.kinds = 0 := by
  unfold checkE at h
  split at h
  · rename_i h1; exact absurd h h1
  · rename_i h1; exact Decidable.not_not.1 h1
theorem gb_put {w w2 : World} {g : Nat} {t : TypeId} {cells : Array Value} (h : PutR w w2 g t cells) : w.grownBy w2 (some g) := ⟨h.os, h.tape, h.output, by rw [h.size]; exact Nat.le_refl _, fun k hk hne => h.else_ k (fun e => hne (by rw [e]))⟩
def F_sp (WB BE nk gl gd ni ic : Nat) (FN gv : Int) (kk gq ia : Option Addr) (jq : Nat) (v : Value) (w : World) : Prop :=
  match jq with
  | 0 => v = .agg #[.slice kk nk nk, .slice gq gl gd, .slice ia ni ic]
  | 1 => v = .agg #[.int .i64 FN, .int .i64 gv]
  | 2 => w.heap[WB + 1]? = some (.cells #[.slice kk nk nk, .slice gq gl gd, .slice ia ni ic] 26 (0, 0))
  | _ => True
theorem F_sp_mono (WB BE nk gl gd ni ic : Nat) (FN gv : Int) (kk gq ia : Option Addr) : FactsR (RG 2 (some (WB + 1))) (F_sp WB BE nk gl gd ni ic FN gv kk gq ia) := ⟨by
  intro i jq v w w2 hij h hb
  unfold F_sp at h ⊢
  split at h
  all_goals first
    | exact h
    | exact heap_below h (hb.1 hij)
    | trivial⟩

set_option maxHeartbeats 16000000 in
set_option maxRecDepth 20000 in
theorem world_Spawn (y : WorldV) (l : List CompV) (v : Value) (a : Option Addr) (n ca : Nat) (W : World) (hv : WorldIn W v y) (hsm : SmallW y) (hkf : ∀ k ∈ y.kinds, k.fields.length ≤ 1048576) (hn : l.length = n) (h1 : n ≤ 1048576) (hca : n ≤ ca) (hvl : ∀ z ∈ l, z.vals.length ≤ 1048576) (hz : SlAt 2 CompAt W a l) :
    Calls Tryz.prog 5 #[v, .slice a n ca] W (SpawnR y l (spawnE y l) W) := by
  have hv0 := hv
  obtain ⟨ak, ck, ag, cg, ai, ci, rfl, q1, q2, q3, q4, q5⟩ := hv
  obtain ⟨nk, hnk⟩ : ∃ n, n = y.kinds.length := ⟨_, rfl⟩
  obtain ⟨ng, hng⟩ : ∃ n, n = y.gens.length := ⟨_, rfl⟩
  obtain ⟨ni, hni⟩ : ∃ n, n = y.items.length := ⟨_, rfl⟩
  rw [← hnk, ← hng, ← hni] at hv0
  rw [← hnk] at q4
  rw [← hnk, ← hng, ← hni]
  obtain ⟨E, hE⟩ : ∃ E, E = spawnE y l := ⟨_, rfl⟩
  rw [← hE]
  obtain ⟨CE, hCE⟩ : ∃ E, E = checkE y := ⟨_, rfl⟩
  obtain ⟨FE, hFE⟩ : ∃ E, E = fitAllE y.kinds l := ⟨_, rfl⟩
  have g1 : CE ≠ 0 → E = CE := fun h => by rw [hE, hCE]; unfold spawnE; rw [if_pos (by rw [← hCE]; exact h)]
  have g2 : CE = 0 → FE ≠ 0 → E = FE := fun h h2 => by rw [hE, hFE]; unfold spawnE; rw [if_neg (by rw [← hCE]; exact fun x => x h), if_pos (by rw [← hFE]; exact h2)]
  have g3 : CE = 0 → FE = 0 → freeOk y = false → E = 6 := fun h h2 h3 => by rw [hE]; unfold spawnE; rw [if_neg (by rw [← hCE]; exact fun x => x h), if_neg (by rw [← hFE]; exact fun x => x h2), if_pos h3]
  have g4 : CE = 0 → FE = 0 → freeOk y = true → E = 0 := fun h h2 h3 => by rw [hE]; unfold spawnE; rw [if_neg (by rw [← hCE]; exact fun x => x h), if_neg (by rw [← hFE]; exact fun x => x h2), if_neg (by rw [h3]; simp)]
  have gs : CE = 0 → y.items.Pairwise (fun x y => x.n < y.n) ∧ ng ≤ 256 := fun h => by
    rw [hCE] at h
    unfold checkE at h
    split at h
    · rename_i hh; exact absurd h hh
    · split at h
      · cases h
      · rename_i hl
        split at h
        · rename_i hc
          have := (itemsAt_iff y y.items.length (Nat.le_refl _)).1 hc.2
          rw [List.take_length] at this
          exact ⟨this.1, by rw [hng]; omega⟩
        · cases h
  obtain ⟨o1, ho1⟩ : ∃ o : Obj, o = .cells #[.slice ak nk ck, .slice ag ng cg, .slice ai ni ci] 26 (0, 0) := ⟨_, rfl⟩
  obtain ⟨o2, ho2⟩ : ∃ o : Obj, o = .cells #[.slice none 0 0, .slice none 0 0, .slice none 0 0] 26 (0, 0) := ⟨_, rfl⟩
  obtain ⟨o3, ho3⟩ : ∃ o : Obj, o = .cells #[.int .i64 0, .int .i64 0] 29 (0, 0) := ⟨_, rfl⟩
  have hr := fun i o => allocs_get [o1, o2, o3] W i o
  have hbA := allocs_below [o1, o2, o3] W
  have r2 : (allocs W [o1, o2, o3]).heap[W.heap.size]? = some o1 := hr 0 o1 rfl
  have r4 : (allocs W [o1, o2, o3]).heap[W.heap.size + 1]? = some o2 := hr 1 o2 rfl
  have r5 : (allocs W [o1, o2, o3]).heap[W.heap.size + 1 + 1]? = some o3 := hr 2 o3 rfl
  simp only [allocs] at r2 r4 r5 hbA
  rw [ho1, ho2, ho3] at r2 r4 r5 hbA
  have HBA := Lib.hid hbA
  have R2 := Lib.hid r2
  have R4 := Lib.hid r4
  have R5 := Lib.hid r5
  have HV0 := Lib.hid hv0
  have HSM := Lib.hid hsm
  have HKF := Lib.hid hkf
  have HZK := Lib.hid q1
  have HKC := Lib.hid (And.intro q4 q5)
  have NK := Lib.hid hnk
  have NG := Lib.hid hng
  have NI := Lib.hid hni
  have HN := Lib.hid hn
  have HVL := Lib.hid hvl
  have HZ := Lib.hid hz
  have G1 := Lib.hid g1
  have G2 := Lib.hid g2
  have G3 := Lib.hid g3
  have G4 := Lib.hid g4
  have GS := Lib.hid gs
  have HCE := Lib.hid hCE
  have HFE := Lib.hid hFE
  have CK := Lib.hid (fun w' (hb : Below W.heap.size W w') => world_Check y _ w' (hv0.below hb) hsm)
  rw [← hCE] at CK
  clear hv0 hsm hkf q1 q2 q3 q4 q5 hnk hng hni hn hvl hz g1 g2 g3 g4 gs hCE hFE hE hr hbA r2 r4 r5 ho1 ho2 ho3 o1 o2 o3
  go_enter Tryz.func5, Tryz.ntmps5
  have e0 := cell_of_row _ _ 0 _ _ _ R2.out
  have e1 := cell_of_row _ _ 1 _ _ _ R2.out
  have e2 := cell_of_row _ _ 2 _ _ _ R2.out
  go_wp2_with fail
  refine (CK.out _ HBA.out).mono ?_
  rintro e w1 ⟨rfl, hb1⟩
  have HB := Lib.hid (bt HBA.out hb1)
  replace R2 := Lib.hid (heap_below R2.out hb1)
  replace R4 := Lib.hid (heap_below R4.out hb1)
  replace R5 := Lib.hid (heap_below R5.out hb1)
  have HW1Lo := Lib.hid (lt_of_heap R5.out)
  clear e0 e1 e2 hb1 HBA CK
  by_cases hc : CE = 0
  · subst hc
    replace G2 := Lib.hid (G2.out rfl)
    replace G3 := Lib.hid (G3.out rfl)
    replace G4 := Lib.hid (G4.out rfl)
    replace GS := Lib.hid (GS.out rfl)
    have HK0 := Lib.hid (checkE_kinds HCE.out.symm)
    have t0 : ((0 : Int) != 0) = false := rfl
    have CF := world_Fit sorts_comps y.kinds l ak a nk ck n ca NK.out.symm HN.out (by rw [NK.out]; exact HSM.out.1) h1 hca HKC.out.1 HKC.out.2 HVL.out w1 (HZK.out.below KindAt.abides HB.out) (HZ.out.below CompAt.abides HB.out)
    unfold FitWPost at CF
    rw [HK0.out, ← HFE.out] at CF
    have HCF := Lib.hid CF
    have e0 := cell_of_row _ _ 0 _ _ _ R2.out
    clear CF G1
    go_wp2_with fail
    refine HCF.out.mono ?_
    intro e w2 hpost
    have hb2 : Below w1.heap.size w1 w2 := hpost.2
    have HW12 := Lib.hid hb2.size
    replace HB := Lib.hid (bt HB.out hb2)
    replace R2 := Lib.hid (heap_below R2.out hb2)
    replace R4 := Lib.hid (heap_below R4.out hb2)
    replace R5 := Lib.hid (heap_below R5.out hb2)
    have hcase := hpost.1
    clear e0 hpost HCF
    rcases hcase with ⟨h, _⟩ | ⟨_, hne, rfl⟩ | ⟨_, h0, fa, fc, rfl, hfu⟩
    · exact absurd rfl h
    · have HE := Lib.hid (G2.out hne)
      have HNE := Lib.hid hne
      have t1 : (FE != 0) = true := by rw [bne_iff_ne]; exact hne
      clear hb2 hne
      go_wp2_with (first
        | (refine wpList_store_rowP rfl 26 (.tmp 4) (.tmp 31) rfl (W.heap.size + 1) #[.slice none 0 0, .slice none 0 0, .slice none 0 0] rfl rfl _ _ R4.out (by kernel_rfl) rfl (ones3 _ _ _ rfl rfl rfl) ?_; intro W9 hput; have HP4 := Lib.hid hput; have R59 := Lib.hid ((hput.else_ _ (by omega)).trans R5.out); clear hput)
        | (refine wpList_store_rowP rfl 29 (.tmp 5) (.tmp 32) rfl (W.heap.size + 1 + 1) #[.int .i64 0, .int .i64 0] rfl rfl _ _ R59.out (by kernel_rfl) rfl (ones2 _ _ rfl rfl) ?_; intro W10 hput; have HP5 := Lib.hid hput; clear hput))
      refine bodyPost_ret (results_cct Tryz.results5 _ _ (W.heap.size + 1) (W.heap.size + 1 + 1) 26 29 _ _ (0, 0) (0, 0) _ _ rfl ((HP5.out.else_ _ (by omega)).trans HP4.out.here) Tryz.underlying26 rfl (by kernel_rfl) rfl HP5.out.here Tryz.underlying29 rfl (by kernel_rfl)) rfl ?_
      exact SpawnR.bad HE.out (by first | exact HNE.out | decide) rfl (HB.out.trans ((HP4.out.below (by omega)).trans (HP5.out.below (by omega))))
    · subst h0
      replace G3 := Lib.hid (G3.out rfl)
      replace G4 := Lib.hid (G4.out rfl)
      have HFU := Lib.hid hfu
      obtain ⟨nf, hnf⟩ : ∃ nf, nf = (listed (fitAllM y.kinds l)).length := ⟨_, rfl⟩
      rw [← hnf]
      have HNF := Lib.hid hnf
      have CR := world_Free y _ w2 (HV0.out.below HB.out) HSM.out
      obtain ⟨FN, hFN⟩ : ∃ N, N = freeN y := ⟨_, rfl⟩
      obtain ⟨FO, hFO⟩ : ∃ N, N = freeOk y := ⟨_, rfl⟩
      rw [← hFN, ← hFO] at CR
      rw [← hFO] at G3 G4
      have HCR := Lib.hid CR
      have HFN := Lib.hid hFN
      have HFO := Lib.hid hFO
      have e0 := cell_of_row _ _ 0 _ _ _ R2.out
      have e1 := cell_of_row _ _ 1 _ _ _ R2.out
      have e2 := cell_of_row _ _ 2 _ _ _ R2.out
      have HWL2 := Lib.hid (lt_of_heap R5.out)
      clear CR hFN hFO hnf hb2 hfu
      go_wp2_with fail
      refine HCR.out.mono ?_
      rintro e w3 ⟨rfl, hb3⟩
      replace HB := Lib.hid (bt HB.out hb3)
      replace R2 := Lib.hid (heap_below R2.out hb3)
      replace R4 := Lib.hid (heap_below R4.out hb3)
      replace R5 := Lib.hid (heap_below R5.out hb3)
      have HFU3 := Lib.hid (HFU.out.below hb3)
      have HB23 := Lib.hid hb3
      have HW23c := Lib.hid hb3.size
      have HW23 := Lib.hid hb3.size
      have HWL := Lib.hid (show W.heap.size + 1 + 1 < w2.heap.size from HWL2.out)
      clear e0 e1 e2 hb3 HCR
      cases FO with
      | false =>
        have HE := Lib.hid (G3.out rfl)
        have HNE := Lib.hid (show (6 : Int) ≠ 0 by decide)
        go_wp2_with (first
          | (refine wpList_store_rowP rfl 26 (.tmp 4) (.tmp 41) rfl (W.heap.size + 1) #[.slice none 0 0, .slice none 0 0, .slice none 0 0] rfl rfl _ _ R4.out (by kernel_rfl) rfl (ones3 _ _ _ rfl rfl rfl) ?_; intro W9 hput; have HP4 := Lib.hid hput; have R59 := Lib.hid ((hput.else_ _ (by omega)).trans R5.out); clear hput)
          | (refine wpList_store_rowP rfl 29 (.tmp 5) (.tmp 42) rfl (W.heap.size + 1 + 1) #[.int .i64 0, .int .i64 0] rfl rfl _ _ R59.out (by kernel_rfl) rfl (ones2 _ _ rfl rfl) ?_; intro W10 hput; have HP5 := Lib.hid hput; clear hput))
        refine bodyPost_ret (results_cct Tryz.results5 _ _ (W.heap.size + 1) (W.heap.size + 1 + 1) 26 29 _ _ (0, 0) (0, 0) _ _ rfl ((HP5.out.else_ _ (by omega)).trans HP4.out.here) Tryz.underlying26 rfl (by kernel_rfl) rfl HP5.out.here Tryz.underlying29 rfl (by kernel_rfl)) rfl ?_
        exact SpawnR.bad HE.out (by first | exact HNE.out | decide) rfl (HB.out.trans ((HP4.out.below (by omega)).trans (HP5.out.below (by omega))))
      | true =>
        have HE := Lib.hid (G4.out rfl)
        have hcp := world_Copy y _ w3 (HV0.out.below HB.out) HSM.out HKF.out
        rw [← NK.out, ← NG.out, ← NI.out] at hcp
        have HCP := Lib.hid hcp
        have HFW := Lib.hid (Win.ofUp HFU.out)
        have e0 := cell_of_row _ _ 0 _ _ _ R2.out
        have e1 := cell_of_row _ _ 1 _ _ _ R2.out
        have e2 := cell_of_row _ _ 2 _ _ _ R2.out
        clear G2 G3 G4 hcp
        go_wp2_with fail
        refine HCP.out.mono ?_
        rintro e w4 ⟨kk, vg, G, S, rfl, hk4, hg4, hgS, hWG, hGS, hblk, hat, hb4⟩
        obtain ⟨ga, gc, rfl⟩ := own_sl hg4
        replace HB := Lib.hid (bt HB.out hb4)
        replace R2 := Lib.hid (heap_below R2.out hb4)
        replace R4 := Lib.hid (heap_below R4.out hb4)
        replace R5 := Lib.hid (heap_below R5.out hb4)
        have hw23 : w2.heap.size ≤ w3.heap.size := HW23.out
        have HW34 := Lib.hid hb4.size
        have HW1L := Lib.hid HW1Lo.out
        have HFW4 := Lib.hid (HFW.out.to (Nat.le_trans hw23 hb4.size) (fun g _ g2 => (hb4.block g (Nat.lt_of_lt_of_le g2 hw23)).trans (HB23.out.block g g2)))
        have hWw : W.heap.size + 1 + 1 < w2.heap.size := HWL.out
        have hWS : w2.heap.size ≤ G := by omega
        have HK4 := Lib.hid hk4
        have HG4 := Lib.hid hg4
        have HGS := Lib.hid hgS
        have HGN := Lib.hid (fun g h => (hgS g h).2)
        have HBLK := Lib.hid hblk
        have HAT := Lib.hid hat
        have hwS : w3.heap.size ≤ G := hWG
        clear e0 e1 e2 hk4 hg4 hgS hblk hat hb4 HCP HFW HFU HFU3 HWL HB23 HW23
        have HF1 := Lib.hid (fun (w5 : World) (hput : PutR w4 w5 W.heap.size 26 #[.slice kk nk nk, .slice ga ng gc, .slice (some ⟨G, 0, none⟩) ni ni]) => show SpC y l W w1.heap.size w2.heap.size w3.heap.size S G fa kk nk ni (.slice ga ng gc) ng y.gens w5 ∧ (∀ g, (Value.slice ga ng gc).ownBlock = some g → g < S ∧ NoStr w5 g) ∧ w5.heap.size = w4.heap.size from by
          have hgb : w4.grownBy w5 (some W.heap.size) := ⟨hput.os, hput.tape, hput.output, by rw [hput.size]; exact Nat.le_refl _, fun k hk hne => hput.else_ k (fun e => hne (by rw [e]))⟩
          have hw1 := HW1L.out
          refine ⟨⟨hput.here, kinds_gb HK4.out (nostr_row R2.out (nostr_row3 _ _ _ _ _ _ _ _ _)) hgb, own_gb HG4.out R2.out (by decide) hgb, ?_, ?_, (hput.else_ _ (by omega)).trans R4.out, (hput.else_ _ (by omega)).trans R5.out, HB.out.trans (hput.below (Nat.le_refl _)), HFW4.out.to (by rw [hput.size]; exact HFW4.out.1) (fun g g1 g2 => hput.else_ g (by omega)), hw1, HW12.out, HW23c.out, hwS, hGS⟩, fun g h => ⟨(HGS.out g h).1, (HGN.out g h).same (hput.else_ g (by have := (own_lt HG4.out g h).1; omega))⟩, hput.size⟩
          · obtain ⟨cs, h1, h2⟩ := HBLK.out
            exact ⟨cs, (hput.else_ _ (by omega)).trans h1, h2⟩
          · intro j h
            obtain ⟨h1, h2, a, c, h3, h4⟩ := HAT.out j h
            exact ⟨cell_gb1 h1 hgb (by show G ≠ _; omega), cell_gb1 h2 hgb (by show G ≠ _; omega), a, c, cell_gb1 h3 hgb (by show G ≠ _; omega), h4.grown hgb (fun r hr => by injection hr with hr; omega)⟩)
        have HWB := Lib.hid hwS
        by_cases hfn : FN = ng
        · have t2 : ((FN : Int) == (ng : Int)) = true := by rw [hfn]; simp
          have HSG := Lib.hid (show spawnG y = y.gens ++ [0] by unfold spawnG; rw [if_pos (by rw [← HFN.out, hfn, NG.out])])
          have hltA : FN < ng + 1 := by omega
          have HFN2 := Lib.hid hltA
          obtain ⟨gv, hgv⟩ : ∃ g, g = (y.gens ++ [0]).getD FN 0 := ⟨_, rfl⟩
          have HGV := Lib.hid hgv
          have HNG1 := Lib.hid (show (y.gens ++ [0]).length = ng + 1 by rw [List.length_append, ← NG.out]; rfl)
          clear hgv
          clear hfn HBLK HAT HG4 HK4 HFW4 HB R4 R5 hwS hWS
          go_wp2_with (first
            | (refine wpList_store_rowP rfl 26 (.tmp 2) (.tmp 44) rfl W.heap.size #[.slice kk nk nk, .slice ga ng gc, .slice (some ⟨G, 0, none⟩) ni ni] rfl rfl _ _ R2.out (by kernel_rfl) rfl (ones3 _ _ _ rfl rfl rfl) ?_; intro w5 hput; have HP := Lib.hid (HF1.out w5 hput); have e1 : w5.cell? ⟨W.heap.size, 1, none⟩ = some (.slice ga ng gc) := (by rw [cell_of_row _ _ 1 _ _ _ hput.here]; rfl); clear hput)
            | (at_builtin; go_must (refine wpList_append_ints rfl _ _ 23 rfl w3.heap.size 3 .i64 8 Tryz.underlying23 (by kernel_rfl) (.slice ga ng gc) ng y.gens rfl (own_bel HP.out.1.gens ((Below.refl _ _).alloc (Nat.le_refl _) _)) (some ⟨w5.heap.size, 0, none⟩) 1 1 [0] rfl rfl (new_ints1 _ _) (by unfold maxLen; have := GS.out.2; omega) (by have := GS.out.2; omega) (by rw [World.size_alloc, HP.out.2.2]; have := HW34.out; omega) ?_); intro v6 w6 hown6 hg6 hor6; obtain ⟨gq, gd, rfl, hq1, hq2⟩ := hown6.form (by omega); have h6 := spawn_grow HP.out.1.row hg6 (fun r h => (own_lt HP.out.1.gens r h).1) (by have := HP.out.1.o1; have := HP.out.1.o2; have := HP.out.1.o3; omega); have f6 := h6.2; have c6 := h6.1; have hsp6 := HP.out.1.grow HP.out.2.1 ((World.grownBy_alloc w5 _ _).trans hg6) hown6; have HSP := Lib.hid hsp6; have eg : w6.cell? ⟨gq, FN, none⟩ = some (.int .i64 gv) := (by have hff := HFN2.out; rw [hown6.cellAt FN (by omega), vints_get .i64 _ FN (by rw [HNG1.out]; exact hff), HGV.out]); have e2 := cell_of_row _ _ 2 _ _ _ (heap_keep hsp6.row (.cells #[.int .i64 (FN : Int), .int .i64 gv] 29 (0, 0))); clear hsp6; clear hown6 hg6 hor6 h6))
          obtain ⟨wc, hwc⟩ : ∃ wc, wc = w6.setCell ⟨W.heap.size, 1, none⟩ (.slice (some ⟨gq, 0, none⟩) (ng + 1) gd) := ⟨_, rfl⟩
          have hsp := HSP.out
          rw [← HSG.out, ← hwc] at hsp
          rw [← hwc]
          have hws : w6.heap.size = wc.heap.size := by rw [hwc]; simp
          rw [hws]
          have HGW := Lib.hid (show gv = (spawnG y).getD FN 0 by rw [HSG.out]; exact HGV.out)
          obtain ⟨gl, hgl⟩ : ∃ gl, gl = ng + 1 := ⟨_, rfl⟩
          rw [← hgl] at hsp ⊢
          have HFL := HFN2.out
          rw [← hgl] at HFL
          have HSPC := Lib.hid hsp
          clear hws hsp hwc hgl f6 c6 e1 e2 eg t2 HSP HP HSG HFN2 HGV HNG1
          obtain ⟨wd, hwd⟩ : ∃ wd, wd = wc.alloc (.cells #[.int .i64 (FN : Int), .int .i64 gv] 29 (0, 0)) := ⟨_, rfl⟩
          have hbd : Below wc.heap.size wc wd := by rw [hwd]; exact (Below.refl _ _).alloc (Nat.le_refl _) _
          have hre : wd.heap[wc.heap.size]? = some (.cells #[.int .i64 (FN : Int), .int .i64 gv] 29 (0, 0)) := by rw [hwd]; exact heap_alloc_new wc _
          rw [← hwd]
          obtain ⟨BE, hBE⟩ : ∃ b, b = wc.heap.size := ⟨_, rfl⟩
          rw [← hBE] at hre ⊢
          have hsd := HSPC.out.below hbd
          have hBW : G < BE := by rw [hBE]; exact HSPC.out.blk.lt
          have HBS := Lib.hid (bin_items y.items (some ⟨G, 0, none⟩) ni ni (FN : Int) NI.out.symm (by rw [NI.out]; exact HSM.out.2.2.1) GS.out.1 wd (fun _ => ⟨_, rfl, hsd.blk.lt, fun j hj => by rw [add_zero_block]; exact (hsd.items j hj).at_⟩))
          have HSD := Lib.hid hsd
          have HRE := Lib.hid hre
          have HBEG := Lib.hid hBW
          clear hbd hre hsd hwd hBE hBW HSPC
          refine HBS.out.mono ?_
          rintro e we ⟨⟨ip, fo, hip, rfl, hlo, hhi, _⟩, hbe⟩
          have HLO := Lib.hid hlo
          have HHI := Lib.hid hhi
          have hse := HSD.out.below hbe
          have hre := heap_below HRE.out hbe
          obtain ⟨cs, hcs1, hcs2⟩ := hse.blk
          obtain ⟨css, hc1, hc2, hc3, hc4, hc5⟩ := item_rows hcs1 (by rw [hcs2, NI.out]) hse.items
          have hown : we.ownsRow G 61 3 (.slice (some ⟨G, 0, none⟩) ni ni) ni css.flatten := ⟨by rw [hc3, Array.length_toList, hcs2], Or.inr ⟨G, ni, cs, rfl, Nat.le_refl _, hcs1, Nat.le_refl _, by unfold maxLen; have := HSM.out.2.2.1; rw [← NI.out] at this; omega, hcs2, by rw [hc3, List.take_of_length_le (by rw [Array.length_toList, hcs2]; exact Nat.le_refl _)]⟩⟩
          have hba : Below we.heap.size we (we.alloc (.cells #[.int .i64 (FN : Int), .int .i64 gv, .slice fa nf fc] 61 (0, 0))) := (Below.refl _ _).alloc (Nat.le_refl _) _
          have hro := new_row we #[.int .i64 (FN : Int), .int .i64 gv, .slice fa nf fc] 61
          have HIN := Lib.hid (ins_items css.flatten [.int .i64 (FN : Int), .int .i64 gv, .slice fa nf fc] G ni ip we.heap.size (we.alloc (.cells #[.int .i64 (FN : Int), .int .i64 gv, .slice fa nf fc] 61 (0, 0))) (own_below hown hba) hip (by have := HSM.out.2.2.1; rw [← NI.out] at this; exact this) rfl
            (fun j v hj => by have := hro j v hj; simpa using this) (fun v hv => by obtain ⟨c, hcc, hvv⟩ := List.mem_flatten.1 hv; exact (hc4 c hcc v hvv).1) (fun v hv => by simp only [List.mem_cons, List.not_mem_nil, or_false] at hv; rcases hv with rfl | rfl | rfl <;> rfl))
          have HNS := Lib.hid (show NoStr we G from nostr_row hcs1 (fun j s hj => by
            have hm := Array.mem_of_getElem? hj
            rw [← Array.mem_toList_iff, ← hc3] at hm
            obtain ⟨c, hcc, hvv⟩ := List.mem_flatten.1 hm
            exact (hc4 c hcc _ hvv).2 s rfl))
          have c2 := cell_of_row _ _ 2 _ _ _ hse.row
          have d0 := cell_of_row _ _ 0 _ _ _ hre
          have d1 := cell_of_row _ _ 1 _ _ _ hre
          have HSE := Lib.hid hse
          have HREE := Lib.hid hre
          have HC2 := Lib.hid hc2
          have HC5 := Lib.hid hc5
          have HC1 := Lib.hid hc1
          have HBA := Lib.hid hba
          clear hlo hhi hse hre hcs1 hcs2 hc1 hc2 hc3 hc4 hc5 hown hba hro hbe HBS HSD HRE
          go_wp2_with fail
          refine HIN.out.mono ?_
          rintro e w8 ⟨v8, rfl, ho8, hg8⟩
          obtain ⟨ia, ic, rfl⟩ := own_slice ho8
          have hga : we.grownBy w8 (some G) := (World.grownBy_alloc we _ _).trans hg8
          have o1 := HSE.out.o1
          have o2 := HSE.out.o2
          have o3 := HSE.out.o3
          have o4 := HSE.out.o4
          have o5 := HSE.out.o5
          have hbg := HBEG.out
          have hr8 : w8.heap[W.heap.size]? = some (.cells #[.slice kk nk nk, .slice (some ⟨gq, 0, none⟩) gl gd, .slice (some ⟨G, 0, none⟩) ni ni] 26 (0, 0)) := (hga.block _ (lt_of_heap HSE.out.row) (fun e => by injection e with e; omega)).trans HSE.out.row
          have c8 := cell_of_row _ _ 2 _ _ _ hr8
          have f8 : w8.frozen? ⟨W.heap.size, 2, none⟩ = false := Mem.frozen_of_row hr8 2
          have hg9 : w8.grownBy (w8.setCell ⟨W.heap.size, 2, none⟩ (.slice ia (ni + 1) ic)) (some W.heap.size) := gb_set (World.grownBy.refl _ _) 2 _
          have far : ∀ k, k ≠ W.heap.size → (w8.setCell ⟨W.heap.size, 2, none⟩ (.slice ia (ni + 1) ic)).heap[k]? = w8.heap[k]? := fun k hk => Below.heap_setCell w8 ⟨W.heap.size, 2, none⟩ _ k hk
          have hrow9 := Mem.heap_set hr8 2 (.slice ia (ni + 1) ic)
          obtain ⟨cs, hcs1, _⟩ := HSE.out.blk
          have hk9 := kinds_gb (kinds_gb HSE.out.kinds HNS.out hga) (nostr_row hr8 (nostr_row3 _ _ _ _ _ _ _ _ _)) hg9
          have hgn9 := own_gb (own_gb HSE.out.gens hcs1 (by decide) hga) hr8 (by decide) hg9
          have hr49 : (w8.setCell ⟨W.heap.size, 2, none⟩ (.slice ia (ni + 1) ic)).heap[W.heap.size + 1]? = some (.cells #[.slice none 0 0, .slice none 0 0, .slice none 0 0] 26 (0, 0)) := (far _ (by omega)).trans ((hga.block _ (lt_of_heap HSE.out.r4) (fun e => by injection e with e; omega)).trans HSE.out.r4)
          have hr59 : (w8.setCell ⟨W.heap.size, 2, none⟩ (.slice ia (ni + 1) ic)).heap[W.heap.size + 1 + 1]? = some (.cells #[.int .i64 0, .int .i64 0] 29 (0, 0)) := (far _ (by omega)).trans ((hga.block _ (lt_of_heap HSE.out.r5) (fun e => by injection e with e; omega)).trans HSE.out.r5)
          have hen9 : (w8.setCell ⟨W.heap.size, 2, none⟩ (.slice ia (ni + 1) ic)).heap[BE]? = some (.cells #[.int .i64 (FN : Int), .int .i64 gv] 29 (0, 0)) := (far _ (by omega)).trans ((hga.block _ (lt_of_heap HREE.out) (fun e => by injection e with e; omega)).trans HREE.out)
          have hb9 : Below W.heap.size W (w8.setCell ⟨W.heap.size, 2, none⟩ (.slice ia (ni + 1) ic)) := (HSE.out.bel.grown hga HSE.out.bel.size (fun r h => by injection h with h; omega)).setCell (p := ⟨W.heap.size, 2, none⟩) (Nat.le_refl _) _
          have hcm9 : ∀ w10 w11, (w8.setCell ⟨W.heap.size, 2, none⟩ (.slice ia (ni + 1) ic)).grownBy w10 (some (W.heap.size + 1)) → w10.grownBy w11 (some (W.heap.size + 1 + 1)) → SlAt 2 CompAt w11 fa (listed (fitAllM y.kinds l)) := by
            intro w10 w11 h10 h11
            have z1 := HSE.out.comps.1
            have z2 := hga.size
            have z3 := h10.size
            have z4 := h11.size
            rw [World.size_setCell] at z3
            exact (HSE.out.comps.to (w' := w11) (by omega) (fun g g1 g2 => (h11.block g (by omega) (fun e => by injection e with e; omega)).trans ((h10.block g (by rw [World.size_setCell]; omega) (fun e => by injection e with e; omega)).trans ((far g (by omega)).trans (hga.block g (by omega) (fun e => by injection e with e; omega)))))).now
          have hr5x : ∀ w10, (w8.setCell ⟨W.heap.size, 2, none⟩ (.slice ia (ni + 1) ic)).grownBy w10 (some (W.heap.size + 1)) → w10.heap[W.heap.size + 1 + 1]? = some (.cells #[.int .i64 0, .int .i64 0] 29 (0, 0)) := fun w10 h10 => (h10.block _ (lt_of_heap hr59) (fun e => by injection e with e; omega)).trans hr59
          have hi9 : ∀ w10 w11, (w8.setCell ⟨W.heap.size, 2, none⟩ (.slice ia (ni + 1) ic)).grownBy w10 (some (W.heap.size + 1)) → w10.grownBy w11 (some (W.heap.size + 1 + 1)) → SlAt 3 ItemAt w11 ia (y.items.take ip ++ [spawnI y l] ++ y.items.drop ip) := by
            intro w10 w11 h10 h11
            have hown9 := own_gb (own_gb (own_gb ho8 hr8 (by decide) hg9) hr49 (by decide) h10) (hr5x w10 h10) (by decide) h11
            rw [take_flat css HC2.out, drop_flat2 css HC2.out] at hown9
            have hfl : (css.take ip).flatten ++ [Value.int .i64 (FN : Int), Value.int .i64 gv, Value.slice fa nf fc] ++ (css.drop ip).flatten = (css.take ip ++ [[Value.int .i64 (FN : Int), Value.int .i64 gv, Value.slice fa nf fc]] ++ css.drop ip).flatten := by simp
            rw [hfl] at hown9
            have hil : ip ≤ y.items.length := by rw [← NI.out]; exact hip
            refine slat_of_own EItem.at hown9 (by simp only [List.length_append, List.length_take, List.length_drop, List.length_singleton]; rw [NI.out]; omega) (by simp only [List.length_append, List.length_take, List.length_drop, List.length_singleton, HC1.out]; rw [NI.out]; omega) (fun c hc => ?_) (ins_all _ css y.items _ (spawnI y l) ip HC1.out hil (fun j h1 h2 => ((((HC5.out j h1 h2).grown hga (fun r h => by injection h with h; omega)).grown hg9 (fun r h => by injection h with h; omega)).grown h10 (fun r h => by injection h with h; omega)).grown h11 (fun r h => by injection h with h; omega) |>.now) ?_)
            · rcases List.mem_append.1 hc with hc | hc
              · rcases List.mem_append.1 hc with hc | hc
                · exact HC2.out c (List.mem_of_mem_take hc)
                · rw [List.mem_singleton.1 hc]; rfl
              · exact HC2.out c (List.mem_of_mem_drop hc)
            · refine ⟨fa, fc, ?_, hcm9 w10 w11 h10 h11⟩
              show _ = [Value.int .i64 (freeN y : Int), .int .i64 ((spawnG y).getD (freeN y) 0), .slice fa (listed (fitAllM y.kinds l)).length fc]
              rw [← HFN.out, ← HGW.out, ← HNF.out]
          obtain ⟨w9, hw9⟩ : ∃ w9, w9 = w8.setCell ⟨W.heap.size, 2, none⟩ (.slice ia (ni + 1) ic) := ⟨_, rfl⟩
          have HWI := Lib.hid (show ∀ w10 w11, w9.grownBy w10 (some (W.heap.size + 1)) → w10.grownBy w11 (some (W.heap.size + 1 + 1)) → WorldIn w11 (.agg #[.slice kk nk nk, .slice (some ⟨gq, 0, none⟩) gl gd, .slice ia (ni + 1) ic]) ⟨y.kinds, spawnG y, y.items.take ip ++ [spawnI y l] ++ y.items.drop ip⟩ from by
            intro w10 w11 h10 h11
            rw [hw9] at h10
            have hk11 := kinds_gb (kinds_gb hk9 (nostr_row hr49 (nostr_row3 _ _ _ _ _ _ _ _ _)) h10) (nostr_row (hr5x w10 h10) (fun j s e => by rcases j with _ | _ | j <;> simp at e)) h11
            have hgn11 := own_gb (own_gb hgn9 hr49 (by decide) h10) (hr5x w10 h10) (by decide) h11
            have hgl : (spawnG y).length = gl := by have := hgn9.1; rw [vints_length, Nat.mul_one] at this; exact this
            have hil : (y.items.take ip ++ [spawnI y l] ++ y.items.drop ip).length = ni + 1 := by simp only [List.length_append, List.length_take, List.length_drop, List.length_singleton]; rw [← NI.out]; omega
            exact ⟨kk, nk, some ⟨gq, 0, none⟩, gd, ia, ic, by simp only; rw [hgl, hil, NK.out], hk11, IntsAt.of_own hgn11 hgl.symm, hi9 w10 w11 h10 h11, by simp only; rw [NK.out]; exact Nat.le_refl _, by have := HSM.out.1; rw [← NK.out] at this; omega⟩)
          have HRW9 := Lib.hid (show w9.heap[W.heap.size]? = some (.cells #[.slice kk nk nk, .slice (some ⟨gq, 0, none⟩) gl gd, .slice ia (ni + 1) ic] 26 (0, 0)) by rw [hw9]; exact hrow9)
          rw [← hw9] at hr49 hr59 hen9 hb9
          have HR4 := Lib.hid hr49
          have HR5 := Lib.hid hr59
          have HEN := Lib.hid hen9
          have HB9 := Lib.hid hb9
          have HLAST := Lib.hid (show SpawnZ y l ⟨y.kinds, spawnG y, y.items.take ip ++ [spawnI y l] ++ y.items.drop ip⟩ from ⟨ip, by rw [← NI.out]; exact hip, fun j h hj => by rw [← HFN.out]; exact HLO.out j h hj, fun j h hj => by rw [← HFN.out]; exact HHI.out j h hj, rfl⟩)
          have HXN := Lib.hid (show (FN : Int) = (spawnI y l).n ∧ gv = (spawnI y l).gen from ⟨by rw [HFN.out]; rfl, by rw [HGW.out, HFN.out]; rfl⟩)
          have HOS := Lib.hid (show W.heap.size + 1 + 1 < BE from by omega)
          clear hga o1 o2 o3 o4 o5 hbg hg9 far hrow9 hcs1 hk9 hgn9 hr49 hr59 hen9 hb9 hcm9 hr5x hi9 hg8 ho8 hr8 c2 d0 d1 HIN HNS HSE HREE HC2 HC5 HC1 HBA
          go_wp2_with fail
          rw [← hw9]
          clear hw9 c8 f8
          refine wp_region_facts_r rfl 3 (by kernel_rfl) (fun a b => World.grownBy a b (some (W.heap.size + 1))) (gb_drew _ _) (fun _ _ _ h h2 => h.trans h2) (RG 2 (some (W.heap.size + 1))) RG.sub (F_sp W.heap.size BE nk gl gd (ni + 1) ic (FN : Int) gv kk (some ⟨gq, 0, none⟩) ia) (F_sp_mono W.heap.size BE nk gl gd (ni + 1) ic (FN : Int) gv kk (some ⟨gq, 0, none⟩) ia) 2 (fun w => w.heap[W.heap.size + 1]? = some (.cells #[.slice none 0 0, .slice none 0 0, .slice none 0 0] 26 (0, 0))) HR4.out (fun i a b hi h ho => heap_below ho (h.1 hi)) ?_ ?_
          · refine ⟨?_, ?_, ?_, trivial⟩
            · intro vs w' F hb hd hF hl hT hq
              have e := (hF 2).trans (look_out _ 2 _ _ (by kernel_rfl))
              exact rg_load 26 _ rfl rfl (W.heap.size) (0) [.slice kk nk nk, .slice (some ⟨gq, 0, none⟩) gl gd, .slice ia (ni + 1) ic] e (CellsK.row ((hb.block _ (lt_of_heap HRW9.out) (fun e => by injection e with e; omega)).trans HRW9.out)) _ Tryz.underlying26 rfl (by kernel_rfl) ⟨_, rfl, RG.same _ _ _ _, rfl⟩
            · intro vs w' F hb hd hF hl hT hq
              have e := (hF 12).trans (look_out _ 12 _ _ (by kernel_rfl))
              exact rg_load 29 _ rfl rfl (BE) (0) [.int .i64 (FN : Int), .int .i64 gv] e (CellsK.row ((hb.block _ (lt_of_heap HEN.out) (fun e => by have := HOS.out; injection e with e; omega)).trans HEN.out)) _ Tryz.underlying29 rfl (by kernel_rfl) ⟨_, rfl, RG.same _ _ _ _, rfl⟩
            · intro vs w' F hb hd hF hl hT hq
              have e1 := ((hF 4).trans (look_out _ 4 _ _ (by kernel_rfl)))
              have e2 := (((hF 78).trans (look_at _ 78 0 _ _ (by kernel_rfl) (by kernel_rfl) hl)).trans (dep_of (Fact := F_sp W.heap.size BE nk gl gd (ni + 1) ic (FN : Int) gv kk (some ⟨gq, 0, none⟩) ia) hd 0 (by kernel_rfl)))
              refine wpList_store_rowP rfl 26 (.tmp 4) (.tmp 78) rfl (W.heap.size + 1) #[.slice kk nk nk, .slice (some ⟨gq, 0, none⟩) gl gd, .slice ia (ni + 1) ic] e1 e2 _ _ (hq rfl) (by kernel_rfl) rfl (ones3 _ _ _ rfl rfl rfl) ?_
              intro w2 hput
              exact ⟨undef, rfl, RG.at_ rfl (gb_put hput), hput.here⟩
          · intro vs8 W8 hl hb hI
            have i2 : W8.heap[W.heap.size + 1]? = some (.cells #[.slice kk nk nk, .slice (some ⟨gq, 0, none⟩) gl gd, .slice ia (ni + 1) ic] 26 (0, 0)) := hI 2 (by omega)
            have i1 : vs8.getD 1 undef = .agg #[.int .i64 (FN : Int), .int .i64 gv] := hI 1 (by omega)
            obtain ⟨x0, x1, x2, x3, x4, hvs⟩ := list5 hl
            subst hvs
            replace i1 : x1 = .agg #[.int .i64 (FN : Int), .int .i64 gv] := i1
            subst i1
            have h59 := (hb.block _ (lt_of_heap HR5.out) (fun e => by injection e with e; omega)).trans HR5.out
            have R59 := Lib.hid h59
            have HI2 := Lib.hid i2
            have HGB := Lib.hid hb
            clear i2 hI hl hb h59
            simp only [fillAll, Act.put, List.setIfInBounds_toArray, List.set_cons_succ, List.set_cons_zero, List.drop_succ_cons, List.drop_zero]
            go_wp2_with (refine wpList_store_rowP rfl 29 (.tmp 5) (.tmp 79) rfl (W.heap.size + 1 + 1) #[.int .i64 (FN : Int), .int .i64 gv] rfl rfl _ _ R59.out (by kernel_rfl) rfl (ones2 _ _ rfl rfl) ?_; intro W10 hput; have HP5 := Lib.hid hput; clear hput)
            have g11 := gb_put HP5.out
            refine bodyPost_ret (results_cct Tryz.results5 _ _ (W.heap.size + 1) (W.heap.size + 1 + 1) 26 29 _ _ (0, 0) (0, 0) _ _ rfl ((HP5.out.else_ _ (by omega)).trans HI2.out) Tryz.underlying26 rfl (by kernel_rfl) rfl HP5.out.here Tryz.underlying29 rfl (by kernel_rfl)) rfl ?_
            have hbz : Below W.heap.size W W10 := (HB9.out.grown HGB.out HB9.out.size (fun r h => by injection h with h; omega)).grown g11 (by have := HB9.out.size; have := HGB.out.size; omega) (fun r h => by injection h with h; omega)
            exact SpawnR.good HE.out.symm HXN.out.1 HXN.out.2 HLAST.out (HWI.out _ _ HGB.out g11) hbz
        · have t2 : ((FN : Int) == (ng : Int)) = false := by
            have : ¬ ((FN : Int) = (ng : Int)) := by omega
            simpa using this
          have HFL : FN < ng := by have := firstP_le (freeP y) y.gens.length; have h := HFN.out; unfold freeN at h; rw [← NG.out] at this h; omega
          have HSG := Lib.hid (show spawnG y = y.gens by unfold spawnG; rw [if_neg (by rw [← HFN.out, ← NG.out]; exact hfn)])
          obtain ⟨gv, hgv⟩ : ∃ g, g = y.gens.getD FN 0 := ⟨_, rfl⟩
          have HGV := Lib.hid hgv
          clear hgv
          obtain ⟨gq, gd, hgq, _, _⟩ := HG4.out.form (by omega)
          injection hgq with hg1 _ hg3
          subst hg1
          have hg4 := hg3.symm
          subst hg4
          have hff := HFL
          clear hff hfn HBLK HAT HG4 HK4 HFW4 HB R4 R5 hwS hWS
          go_wp2_with (refine wpList_store_rowP rfl 26 (.tmp 2) (.tmp 44) rfl W.heap.size #[.slice kk nk nk, .slice (some ⟨gq, 0, none⟩) ng gd, .slice (some ⟨G, 0, none⟩) ni ni] rfl rfl _ _ R2.out (by kernel_rfl) rfl (ones3 _ _ _ rfl rfl rfl) ?_; intro wc hput; have HP := Lib.hid (HF1.out wc hput); have e1 : wc.cell? ⟨W.heap.size, 1, none⟩ = some (.slice (some ⟨gq, 0, none⟩) ng gd) := (by rw [cell_of_row _ _ 1 _ _ _ hput.here]; rfl); have eg : wc.cell? ⟨gq, FN, none⟩ = some (.int .i64 gv) := (by have hff := HFL; have hp := (HF1.out wc hput).1.gens; rw [hp.cellAt FN (by omega), vints_get .i64 _ FN (by rw [← NG.out]; exact hff), HGV.out]); have e2 := cell_of_row _ _ 2 _ _ _ (heap_keep hput.here (.cells #[.int .i64 (FN : Int), .int .i64 gv] 29 (0, 0))); clear hput)
          have hsp := HP.out.1
          rw [← HSG.out] at hsp
          have HGW := Lib.hid (show gv = (spawnG y).getD FN 0 by rw [HSG.out]; exact HGV.out)
          obtain ⟨gl, hgl⟩ : ∃ gl, gl = ng := ⟨_, rfl⟩
          rw [← hgl] at hsp ⊢
          rw [← hgl] at HFL
          have HSPC := Lib.hid hsp
          clear hsp hgl e1 e2 eg t2 HP HSG HGV
          obtain ⟨wd, hwd⟩ : ∃ wd, wd = wc.alloc (.cells #[.int .i64 (FN : Int), .int .i64 gv] 29 (0, 0)) := ⟨_, rfl⟩
          have hbd : Below wc.heap.size wc wd := by rw [hwd]; exact (Below.refl _ _).alloc (Nat.le_refl _) _
          have hre : wd.heap[wc.heap.size]? = some (.cells #[.int .i64 (FN : Int), .int .i64 gv] 29 (0, 0)) := by rw [hwd]; exact heap_alloc_new wc _
          rw [← hwd]
          obtain ⟨BE, hBE⟩ : ∃ b, b = wc.heap.size := ⟨_, rfl⟩
          rw [← hBE] at hre ⊢
          have hsd := HSPC.out.below hbd
          have hBW : G < BE := by rw [hBE]; exact HSPC.out.blk.lt
          have HBS := Lib.hid (bin_items y.items (some ⟨G, 0, none⟩) ni ni (FN : Int) NI.out.symm (by rw [NI.out]; exact HSM.out.2.2.1) GS.out.1 wd (fun _ => ⟨_, rfl, hsd.blk.lt, fun j hj => by rw [add_zero_block]; exact (hsd.items j hj).at_⟩))
          have HSD := Lib.hid hsd
          have HRE := Lib.hid hre
          have HBEG := Lib.hid hBW
          clear hbd hre hsd hwd hBE hBW HSPC
          refine HBS.out.mono ?_
          rintro e we ⟨⟨ip, fo, hip, rfl, hlo, hhi, _⟩, hbe⟩
          have HLO := Lib.hid hlo
          have HHI := Lib.hid hhi
          have hse := HSD.out.below hbe
          have hre := heap_below HRE.out hbe
          obtain ⟨cs, hcs1, hcs2⟩ := hse.blk
          obtain ⟨css, hc1, hc2, hc3, hc4, hc5⟩ := item_rows hcs1 (by rw [hcs2, NI.out]) hse.items
          have hown : we.ownsRow G 61 3 (.slice (some ⟨G, 0, none⟩) ni ni) ni css.flatten := ⟨by rw [hc3, Array.length_toList, hcs2], Or.inr ⟨G, ni, cs, rfl, Nat.le_refl _, hcs1, Nat.le_refl _, by unfold maxLen; have := HSM.out.2.2.1; rw [← NI.out] at this; omega, hcs2, by rw [hc3, List.take_of_length_le (by rw [Array.length_toList, hcs2]; exact Nat.le_refl _)]⟩⟩
          have hba : Below we.heap.size we (we.alloc (.cells #[.int .i64 (FN : Int), .int .i64 gv, .slice fa nf fc] 61 (0, 0))) := (Below.refl _ _).alloc (Nat.le_refl _) _
          have hro := new_row we #[.int .i64 (FN : Int), .int .i64 gv, .slice fa nf fc] 61
          have HIN := Lib.hid (ins_items css.flatten [.int .i64 (FN : Int), .int .i64 gv, .slice fa nf fc] G ni ip we.heap.size (we.alloc (.cells #[.int .i64 (FN : Int), .int .i64 gv, .slice fa nf fc] 61 (0, 0))) (own_below hown hba) hip (by have := HSM.out.2.2.1; rw [← NI.out] at this; exact this) rfl
            (fun j v hj => by have := hro j v hj; simpa using this) (fun v hv => by obtain ⟨c, hcc, hvv⟩ := List.mem_flatten.1 hv; exact (hc4 c hcc v hvv).1) (fun v hv => by simp only [List.mem_cons, List.not_mem_nil, or_false] at hv; rcases hv with rfl | rfl | rfl <;> rfl))
          have HNS := Lib.hid (show NoStr we G from nostr_row hcs1 (fun j s hj => by
            have hm := Array.mem_of_getElem? hj
            rw [← Array.mem_toList_iff, ← hc3] at hm
            obtain ⟨c, hcc, hvv⟩ := List.mem_flatten.1 hm
            exact (hc4 c hcc _ hvv).2 s rfl))
          have c2 := cell_of_row _ _ 2 _ _ _ hse.row
          have d0 := cell_of_row _ _ 0 _ _ _ hre
          have d1 := cell_of_row _ _ 1 _ _ _ hre
          have HSE := Lib.hid hse
          have HREE := Lib.hid hre
          have HC2 := Lib.hid hc2
          have HC5 := Lib.hid hc5
          have HC1 := Lib.hid hc1
          have HBA := Lib.hid hba
          clear hlo hhi hse hre hcs1 hcs2 hc1 hc2 hc3 hc4 hc5 hown hba hro hbe HBS HSD HRE
          go_wp2_with fail
          refine HIN.out.mono ?_
          rintro e w8 ⟨v8, rfl, ho8, hg8⟩
          obtain ⟨ia, ic, rfl⟩ := own_slice ho8
          have hga : we.grownBy w8 (some G) := (World.grownBy_alloc we _ _).trans hg8
          have o1 := HSE.out.o1
          have o2 := HSE.out.o2
          have o3 := HSE.out.o3
          have o4 := HSE.out.o4
          have o5 := HSE.out.o5
          have hbg := HBEG.out
          have hr8 : w8.heap[W.heap.size]? = some (.cells #[.slice kk nk nk, .slice (some ⟨gq, 0, none⟩) gl gd, .slice (some ⟨G, 0, none⟩) ni ni] 26 (0, 0)) := (hga.block _ (lt_of_heap HSE.out.row) (fun e => by injection e with e; omega)).trans HSE.out.row
          have c8 := cell_of_row _ _ 2 _ _ _ hr8
          have f8 : w8.frozen? ⟨W.heap.size, 2, none⟩ = false := Mem.frozen_of_row hr8 2
          have hg9 : w8.grownBy (w8.setCell ⟨W.heap.size, 2, none⟩ (.slice ia (ni + 1) ic)) (some W.heap.size) := gb_set (World.grownBy.refl _ _) 2 _
          have far : ∀ k, k ≠ W.heap.size → (w8.setCell ⟨W.heap.size, 2, none⟩ (.slice ia (ni + 1) ic)).heap[k]? = w8.heap[k]? := fun k hk => Below.heap_setCell w8 ⟨W.heap.size, 2, none⟩ _ k hk
          have hrow9 := Mem.heap_set hr8 2 (.slice ia (ni + 1) ic)
          obtain ⟨cs, hcs1, _⟩ := HSE.out.blk
          have hk9 := kinds_gb (kinds_gb HSE.out.kinds HNS.out hga) (nostr_row hr8 (nostr_row3 _ _ _ _ _ _ _ _ _)) hg9
          have hgn9 := own_gb (own_gb HSE.out.gens hcs1 (by decide) hga) hr8 (by decide) hg9
          have hr49 : (w8.setCell ⟨W.heap.size, 2, none⟩ (.slice ia (ni + 1) ic)).heap[W.heap.size + 1]? = some (.cells #[.slice none 0 0, .slice none 0 0, .slice none 0 0] 26 (0, 0)) := (far _ (by omega)).trans ((hga.block _ (lt_of_heap HSE.out.r4) (fun e => by injection e with e; omega)).trans HSE.out.r4)
          have hr59 : (w8.setCell ⟨W.heap.size, 2, none⟩ (.slice ia (ni + 1) ic)).heap[W.heap.size + 1 + 1]? = some (.cells #[.int .i64 0, .int .i64 0] 29 (0, 0)) := (far _ (by omega)).trans ((hga.block _ (lt_of_heap HSE.out.r5) (fun e => by injection e with e; omega)).trans HSE.out.r5)
          have hen9 : (w8.setCell ⟨W.heap.size, 2, none⟩ (.slice ia (ni + 1) ic)).heap[BE]? = some (.cells #[.int .i64 (FN : Int), .int .i64 gv] 29 (0, 0)) := (far _ (by omega)).trans ((hga.block _ (lt_of_heap HREE.out) (fun e => by injection e with e; omega)).trans HREE.out)
          have hb9 : Below W.heap.size W (w8.setCell ⟨W.heap.size, 2, none⟩ (.slice ia (ni + 1) ic)) := (HSE.out.bel.grown hga HSE.out.bel.size (fun r h => by injection h with h; omega)).setCell (p := ⟨W.heap.size, 2, none⟩) (Nat.le_refl _) _
          have hcm9 : ∀ w10 w11, (w8.setCell ⟨W.heap.size, 2, none⟩ (.slice ia (ni + 1) ic)).grownBy w10 (some (W.heap.size + 1)) → w10.grownBy w11 (some (W.heap.size + 1 + 1)) → SlAt 2 CompAt w11 fa (listed (fitAllM y.kinds l)) := by
            intro w10 w11 h10 h11
            have z1 := HSE.out.comps.1
            have z2 := hga.size
            have z3 := h10.size
            have z4 := h11.size
            rw [World.size_setCell] at z3
            exact (HSE.out.comps.to (w' := w11) (by omega) (fun g g1 g2 => (h11.block g (by omega) (fun e => by injection e with e; omega)).trans ((h10.block g (by rw [World.size_setCell]; omega) (fun e => by injection e with e; omega)).trans ((far g (by omega)).trans (hga.block g (by omega) (fun e => by injection e with e; omega)))))).now
          have hr5x : ∀ w10, (w8.setCell ⟨W.heap.size, 2, none⟩ (.slice ia (ni + 1) ic)).grownBy w10 (some (W.heap.size + 1)) → w10.heap[W.heap.size + 1 + 1]? = some (.cells #[.int .i64 0, .int .i64 0] 29 (0, 0)) := fun w10 h10 => (h10.block _ (lt_of_heap hr59) (fun e => by injection e with e; omega)).trans hr59
          have hi9 : ∀ w10 w11, (w8.setCell ⟨W.heap.size, 2, none⟩ (.slice ia (ni + 1) ic)).grownBy w10 (some (W.heap.size + 1)) → w10.grownBy w11 (some (W.heap.size + 1 + 1)) → SlAt 3 ItemAt w11 ia (y.items.take ip ++ [spawnI y l] ++ y.items.drop ip) := by
            intro w10 w11 h10 h11
            have hown9 := own_gb (own_gb (own_gb ho8 hr8 (by decide) hg9) hr49 (by decide) h10) (hr5x w10 h10) (by decide) h11
            rw [take_flat css HC2.out, drop_flat2 css HC2.out] at hown9
            have hfl : (css.take ip).flatten ++ [Value.int .i64 (FN : Int), Value.int .i64 gv, Value.slice fa nf fc] ++ (css.drop ip).flatten = (css.take ip ++ [[Value.int .i64 (FN : Int), Value.int .i64 gv, Value.slice fa nf fc]] ++ css.drop ip).flatten := by simp
            rw [hfl] at hown9
            have hil : ip ≤ y.items.length := by rw [← NI.out]; exact hip
            refine slat_of_own EItem.at hown9 (by simp only [List.length_append, List.length_take, List.length_drop, List.length_singleton]; rw [NI.out]; omega) (by simp only [List.length_append, List.length_take, List.length_drop, List.length_singleton, HC1.out]; rw [NI.out]; omega) (fun c hc => ?_) (ins_all _ css y.items _ (spawnI y l) ip HC1.out hil (fun j h1 h2 => ((((HC5.out j h1 h2).grown hga (fun r h => by injection h with h; omega)).grown hg9 (fun r h => by injection h with h; omega)).grown h10 (fun r h => by injection h with h; omega)).grown h11 (fun r h => by injection h with h; omega) |>.now) ?_)
            · rcases List.mem_append.1 hc with hc | hc
              · rcases List.mem_append.1 hc with hc | hc
                · exact HC2.out c (List.mem_of_mem_take hc)
                · rw [List.mem_singleton.1 hc]; rfl
              · exact HC2.out c (List.mem_of_mem_drop hc)
            · refine ⟨fa, fc, ?_, hcm9 w10 w11 h10 h11⟩
              show _ = [Value.int .i64 (freeN y : Int), .int .i64 ((spawnG y).getD (freeN y) 0), .slice fa (listed (fitAllM y.kinds l)).length fc]
              rw [← HFN.out, ← HGW.out, ← HNF.out]
          obtain ⟨w9, hw9⟩ : ∃ w9, w9 = w8.setCell ⟨W.heap.size, 2, none⟩ (.slice ia (ni + 1) ic) := ⟨_, rfl⟩
          have HWI := Lib.hid (show ∀ w10 w11, w9.grownBy w10 (some (W.heap.size + 1)) → w10.grownBy w11 (some (W.heap.size + 1 + 1)) → WorldIn w11 (.agg #[.slice kk nk nk, .slice (some ⟨gq, 0, none⟩) gl gd, .slice ia (ni + 1) ic]) ⟨y.kinds, spawnG y, y.items.take ip ++ [spawnI y l] ++ y.items.drop ip⟩ from by
            intro w10 w11 h10 h11
            rw [hw9] at h10
            have hk11 := kinds_gb (kinds_gb hk9 (nostr_row hr49 (nostr_row3 _ _ _ _ _ _ _ _ _)) h10) (nostr_row (hr5x w10 h10) (fun j s e => by rcases j with _ | _ | j <;> simp at e)) h11
            have hgn11 := own_gb (own_gb hgn9 hr49 (by decide) h10) (hr5x w10 h10) (by decide) h11
            have hgl : (spawnG y).length = gl := by have := hgn9.1; rw [vints_length, Nat.mul_one] at this; exact this
            have hil : (y.items.take ip ++ [spawnI y l] ++ y.items.drop ip).length = ni + 1 := by simp only [List.length_append, List.length_take, List.length_drop, List.length_singleton]; rw [← NI.out]; omega
            exact ⟨kk, nk, some ⟨gq, 0, none⟩, gd, ia, ic, by simp only; rw [hgl, hil, NK.out], hk11, IntsAt.of_own hgn11 hgl.symm, hi9 w10 w11 h10 h11, by simp only; rw [NK.out]; exact Nat.le_refl _, by have := HSM.out.1; rw [← NK.out] at this; omega⟩)
          have HRW9 := Lib.hid (show w9.heap[W.heap.size]? = some (.cells #[.slice kk nk nk, .slice (some ⟨gq, 0, none⟩) gl gd, .slice ia (ni + 1) ic] 26 (0, 0)) by rw [hw9]; exact hrow9)
          rw [← hw9] at hr49 hr59 hen9 hb9
          have HR4 := Lib.hid hr49
          have HR5 := Lib.hid hr59
          have HEN := Lib.hid hen9
          have HB9 := Lib.hid hb9
          have HLAST := Lib.hid (show SpawnZ y l ⟨y.kinds, spawnG y, y.items.take ip ++ [spawnI y l] ++ y.items.drop ip⟩ from ⟨ip, by rw [← NI.out]; exact hip, fun j h hj => by rw [← HFN.out]; exact HLO.out j h hj, fun j h hj => by rw [← HFN.out]; exact HHI.out j h hj, rfl⟩)
          have HXN := Lib.hid (show (FN : Int) = (spawnI y l).n ∧ gv = (spawnI y l).gen from ⟨by rw [HFN.out]; rfl, by rw [HGW.out, HFN.out]; rfl⟩)
          have HOS := Lib.hid (show W.heap.size + 1 + 1 < BE from by omega)
          clear hga o1 o2 o3 o4 o5 hbg hg9 far hrow9 hcs1 hk9 hgn9 hr49 hr59 hen9 hb9 hcm9 hr5x hi9 hg8 ho8 hr8 c2 d0 d1 HIN HNS HSE HREE HC2 HC5 HC1 HBA
          go_wp2_with fail
          rw [← hw9]
          clear hw9 c8 f8
          refine wp_region_facts_r rfl 3 (by kernel_rfl) (fun a b => World.grownBy a b (some (W.heap.size + 1))) (gb_drew _ _) (fun _ _ _ h h2 => h.trans h2) (RG 2 (some (W.heap.size + 1))) RG.sub (F_sp W.heap.size BE nk gl gd (ni + 1) ic (FN : Int) gv kk (some ⟨gq, 0, none⟩) ia) (F_sp_mono W.heap.size BE nk gl gd (ni + 1) ic (FN : Int) gv kk (some ⟨gq, 0, none⟩) ia) 2 (fun w => w.heap[W.heap.size + 1]? = some (.cells #[.slice none 0 0, .slice none 0 0, .slice none 0 0] 26 (0, 0))) HR4.out (fun i a b hi h ho => heap_below ho (h.1 hi)) ?_ ?_
          · refine ⟨?_, ?_, ?_, trivial⟩
            · intro vs w' F hb hd hF hl hT hq
              have e := (hF 2).trans (look_out _ 2 _ _ (by kernel_rfl))
              exact rg_load 26 _ rfl rfl (W.heap.size) (0) [.slice kk nk nk, .slice (some ⟨gq, 0, none⟩) gl gd, .slice ia (ni + 1) ic] e (CellsK.row ((hb.block _ (lt_of_heap HRW9.out) (fun e => by injection e with e; omega)).trans HRW9.out)) _ Tryz.underlying26 rfl (by kernel_rfl) ⟨_, rfl, RG.same _ _ _ _, rfl⟩
            · intro vs w' F hb hd hF hl hT hq
              have e := (hF 12).trans (look_out _ 12 _ _ (by kernel_rfl))
              exact rg_load 29 _ rfl rfl (BE) (0) [.int .i64 (FN : Int), .int .i64 gv] e (CellsK.row ((hb.block _ (lt_of_heap HEN.out) (fun e => by have := HOS.out; injection e with e; omega)).trans HEN.out)) _ Tryz.underlying29 rfl (by kernel_rfl) ⟨_, rfl, RG.same _ _ _ _, rfl⟩
            · intro vs w' F hb hd hF hl hT hq
              have e1 := ((hF 4).trans (look_out _ 4 _ _ (by kernel_rfl)))
              have e2 := (((hF 78).trans (look_at _ 78 0 _ _ (by kernel_rfl) (by kernel_rfl) hl)).trans (dep_of (Fact := F_sp W.heap.size BE nk gl gd (ni + 1) ic (FN : Int) gv kk (some ⟨gq, 0, none⟩) ia) hd 0 (by kernel_rfl)))
              refine wpList_store_rowP rfl 26 (.tmp 4) (.tmp 78) rfl (W.heap.size + 1) #[.slice kk nk nk, .slice (some ⟨gq, 0, none⟩) gl gd, .slice ia (ni + 1) ic] e1 e2 _ _ (hq rfl) (by kernel_rfl) rfl (ones3 _ _ _ rfl rfl rfl) ?_
              intro w2 hput
              exact ⟨undef, rfl, RG.at_ rfl (gb_put hput), hput.here⟩
          · intro vs8 W8 hl hb hI
            have i2 : W8.heap[W.heap.size + 1]? = some (.cells #[.slice kk nk nk, .slice (some ⟨gq, 0, none⟩) gl gd, .slice ia (ni + 1) ic] 26 (0, 0)) := hI 2 (by omega)
            have i1 : vs8.getD 1 undef = .agg #[.int .i64 (FN : Int), .int .i64 gv] := hI 1 (by omega)
            obtain ⟨x0, x1, x2, x3, x4, hvs⟩ := list5 hl
            subst hvs
            replace i1 : x1 = .agg #[.int .i64 (FN : Int), .int .i64 gv] := i1
            subst i1
            have h59 := (hb.block _ (lt_of_heap HR5.out) (fun e => by injection e with e; omega)).trans HR5.out
            have R59 := Lib.hid h59
            have HI2 := Lib.hid i2
            have HGB := Lib.hid hb
            clear i2 hI hl hb h59
            simp only [fillAll, Act.put, List.setIfInBounds_toArray, List.set_cons_succ, List.set_cons_zero, List.drop_succ_cons, List.drop_zero]
            go_wp2_with (refine wpList_store_rowP rfl 29 (.tmp 5) (.tmp 79) rfl (W.heap.size + 1 + 1) #[.int .i64 (FN : Int), .int .i64 gv] rfl rfl _ _ R59.out (by kernel_rfl) rfl (ones2 _ _ rfl rfl) ?_; intro W10 hput; have HP5 := Lib.hid hput; clear hput)
            have g11 := gb_put HP5.out
            refine bodyPost_ret (results_cct Tryz.results5 _ _ (W.heap.size + 1) (W.heap.size + 1 + 1) 26 29 _ _ (0, 0) (0, 0) _ _ rfl ((HP5.out.else_ _ (by omega)).trans HI2.out) Tryz.underlying26 rfl (by kernel_rfl) rfl HP5.out.here Tryz.underlying29 rfl (by kernel_rfl)) rfl ?_
            have hbz : Below W.heap.size W W10 := (HB9.out.grown HGB.out HB9.out.size (fun r h => by injection h with h; omega)).grown g11 (by have := HB9.out.size; have := HGB.out.size; omega) (fun r h => by injection h with h; omega)
            exact SpawnR.good HE.out.symm HXN.out.1 HXN.out.2 HLAST.out (HWI.out _ _ HGB.out g11) hbz
  · have HE := Lib.hid (G1.out hc)
    have HNE := Lib.hid hc
    have t0 : (CE != 0) = true := by rw [bne_iff_ne]; exact hc
    clear hc
    go_wp2_with (first
      | (refine wpList_store_rowP rfl 26 (.tmp 4) (.tmp 19) rfl (W.heap.size + 1) #[.slice none 0 0, .slice none 0 0, .slice none 0 0] rfl rfl _ _ R4.out (by kernel_rfl) rfl (ones3 _ _ _ rfl rfl rfl) ?_; intro W9 hput; have HP4 := Lib.hid hput; have R59 := Lib.hid ((hput.else_ _ (by omega)).trans R5.out); clear hput)
      | (refine wpList_store_rowP rfl 29 (.tmp 5) (.tmp 20) rfl (W.heap.size + 1 + 1) #[.int .i64 0, .int .i64 0] rfl rfl _ _ R59.out (by kernel_rfl) rfl (ones2 _ _ rfl rfl) ?_; intro W10 hput; have HP5 := Lib.hid hput; clear hput))
    refine bodyPost_ret (results_cct Tryz.results5 _ _ (W.heap.size + 1) (W.heap.size + 1 + 1) 26 29 _ _ (0, 0) (0, 0) _ _ rfl ((HP5.out.else_ _ (by omega)).trans HP4.out.here) Tryz.underlying26 rfl (by kernel_rfl) rfl HP5.out.here Tryz.underlying29 rfl (by kernel_rfl)) rfl ?_
    exact SpawnR.bad HE.out (by first | exact HNE.out | decide) rfl (HB.out.trans ((HP4.out.below (by omega)).trans (HP5.out.below (by omega))))
end Go.Proofs.YtfckbkhnelgjbaaGreatDoor
end
