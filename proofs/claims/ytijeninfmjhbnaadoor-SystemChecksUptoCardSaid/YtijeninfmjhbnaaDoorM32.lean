/- Lemmas for the law SystemChecks: TwoA, KindTwo, SystOld, KindEqF, SystLaw. No conditions. -/
import Derived.Test.YtijeninfmjhbnaaDoorM09
import Derived.Test.YtijeninfmjhbnaaDoorM01
import Derived.Lib.SmallJoins
import Derived.ChangeArms
import Derived.Test.YtijeninfmjhbnaaDoorM12
import Derived.Test.YtijeninfmjhbnaaDoorM06
import Derived.Test.YtijeninfmjhbnaaDoorM31
import Derived.Test.YtijeninfmjhbnaaDoorM30
import Derived.Test.YtijeninfmjhbnaaDoorM05
/- tourlaw3.two; a boxed struct of three; a field handed over by value. -/
section
namespace Go.Proofs.YtijeninfmjhbnaaDoor
open Go.ChangeShapes Go.WideShapes Go.ChangeAt Go.RowKit Go.Nm Go.Mem
set_option linter.unusedVariables false
/-- what two() lays: two fields, two kinds -/
structure TwoAt (W w : World) : Prop where
  bel : Below W.heap.size W w
  f0 : w.heap[W.heap.size]? = some (.cells #[.string ⟨#[120]⟩, .int .i64 3, .int .i64 (-2)] 40 (0, 0))
  f1 : w.heap[W.heap.size + 1]? = some (.cells #[.string ⟨#[120]⟩, .int .i64 8, .int .i64 0] 40 (0, 0))
  k : w.heap[W.heap.size + 1 + 1]? = some (.cells #[.string ⟨#[112, 108, 97, 99, 101]⟩, .slice (some ⟨W.heap.size, 0, none⟩) 1 1, .string ⟨#[108, 105, 102, 101]⟩, .slice (some ⟨W.heap.size + 1, 0, none⟩) 1 1] 43 (0, 0))
theorem two_w (w : World) : Calls Tryd.prog 7 #[] w fun e w' => e = .returned (.slice (some ⟨w.heap.size + 1 + 1, 0, none⟩) 2 2) ∧ TwoAt w w' := by
  go_enter Tryd.func7, Tryd.ntmps7
  go_wp2_with fail
  go_ret
  refine ⟨rfl, (((Below.refl _ _).alloc (Nat.le_refl _) _).alloc (by simp) _).alloc (by simp; omega) _, ?_, ?_, ?_⟩
  · exact heap_keep (heap_keep (heap_alloc_new w _) _) _
  · have := heap_alloc_new (w.alloc (.cells #[.string ⟨#[120]⟩, .int .i64 3, .int .i64 (-2)] 40)) (.cells #[.string ⟨#[120]⟩, .int .i64 8, .int .i64 0] 40)
    exact heap_keep (by simpa using this) _
  · have := heap_alloc_new ((w.alloc (.cells #[.string ⟨#[120]⟩, .int .i64 3, .int .i64 (-2)] 40)).alloc (.cells #[.string ⟨#[120]⟩, .int .i64 8, .int .i64 0] 40)) (.cells #[.string ⟨#[112, 108, 97, 99, 101]⟩, .slice (some ⟨w.heap.size, 0, none⟩) 1 1, .string ⟨#[108, 105, 102, 101]⟩, .slice (some ⟨w.heap.size + 1, 0, none⟩) 1 1] 43)
    simpa using this
/-- the box's cells in a later world -/
theorem box3 {w w2 : World} {a b c : Value} {t : TypeId} (h : Below (w.alloc (.cells #[a, b, c] t)).heap.size (w.alloc (.cells #[a, b, c] t)) w2) :
    w2.cell? ⟨w.heap.size, 0, none⟩ = some a ∧ w2.cell? ⟨w.heap.size, 1, none⟩ = some b ∧ w2.cell? ⟨w.heap.size, 2, none⟩ = some c ∧ Below w.heap.size w w2 := by
  have hh := heap_below (heap_alloc_new w (.cells #[a, b, c] t)) h
  exact ⟨by rw [cell_of_row _ _ 0 _ _ _ hh]; rfl, by rw [cell_of_row _ _ 1 _ _ _ hh]; rfl, by rw [cell_of_row _ _ 2 _ _ _ hh]; rfl, ((Below.refl _ _).alloc (Nat.le_refl _) _).trans (h.mono (by simp))⟩
section
open Go.Joins Go.Deep
variable {H : Type} {enc : TypeId × Value → H} {w : World} {base : Nat} {spare : Nat → Bool} {held : Bool}
set_option maxRecDepth 100000 in
/-- a field handed over by value -/
theorem open_field {r : Reach} {b0 : Nat} {v : Value} {d : DataW H} {p : List MemPlace} (hv : Value.okWide Tryd.prog w r b0 40 v) (h : DataW.Trod enc Tryd.prog w base spare held 40 v d p) :
    ∃ (s : ByteArray) (b l : Int), v = .agg #[.string s, .int .i64 b, .int .i64 l] ∧ s.size ≤ maxLen := by
  obtain ⟨v0, v1, v2, y0, y1, y2, n, rfl, _, _, h0, h1, h2⟩ := open_agg3 Tryd.underlying40 (by kernel_rfl) (by kernel_rfl) hv h
  obtain ⟨s, e0, _, hs⟩ := DataW.trod_string Tryd.underlying9 h0
  obtain ⟨b, e1, _, _⟩ := DataW.trod_int Tryd.underlying3 h1
  obtain ⟨l, e2, _, _⟩ := DataW.trod_int Tryd.underlying3 h2
  injection e0 with e0; injection e1 with e1; injection e2 with e2
  subst e0 e1 e2
  exact ⟨s, b, l, rfl, hs⟩
end
end Go.Proofs.YtijeninfmjhbnaaDoor
end
/- The law's own first kind: its facts in plain words. -/
section
namespace Go.Proofs.YtijeninfmjhbnaaDoor
open Go.ChangeShapes Go.WideShapes Go.ChangeAt Go.RowKit Go.Nm Go.Mem
set_option linter.unusedVariables false
def kTwo : KindV := ⟨⟨#[112, 108, 97, 99, 101]⟩, [⟨⟨#[120]⟩, 3, -2⟩]⟩
theorem kTwo_ok : kindE kTwo = 0 := by kernel_rfl
theorem kTwo_fitE : fitE kTwo [9] = 0 := by kernel_rfl
theorem kTwo_fitL : fitL kTwo.fields [9] = [5] := by kernel_rfl
theorem kTwo_at {W w' : World} (h : TwoAt W w') : SlAt 3 FieldAt w' (some ⟨W.heap.size, 0, none⟩) kTwo.fields := by
  obtain ⟨hb, h0, h1, h2⟩ := h
  intro _
  refine ⟨_, rfl, lt_of_heap h0, fun i hi => ?_⟩
  have : i = 0 := by
    have : i < 1 := hi
    omega
  subst this
  refine ⟨?_, ?_, ?_, ?_⟩
  · show w'.cell? ((⟨W.heap.size, 0, none⟩ : Addr).add (0 * 3)) = _
    rw [add_zero_block, cell_of_row _ _ _ _ _ _ h0]; rfl
  · rw [add_zero_block, cell_of_row _ _ _ _ _ _ h0]; rfl
  · rw [add_zero_block, cell_of_row _ _ _ _ _ _ h0]; rfl
  · show ByteArray.size ⟨#[120]⟩ ≤ _; decide
end Go.Proofs.YtijeninfmjhbnaaDoor
end
/- tourlaw3.older, and the law's own two kinds. -/
section
namespace Go.Proofs.YtijeninfmjhbnaaDoor
open Go.ChangeShapes Go.WideShapes Go.ChangeAt Go.RowKit Go.Nm Go.Mem
set_option linter.unusedVariables false
def xArg : ArgV := ⟨true, 0, 0, 0⟩
def oneArg : ArgV := ⟨false, 1, 0, 0⟩
def olderV (ws : List Int) : SystV := ⟨⟨#[111, 108, 100, 101, 114]⟩, [0], [], [], ws, [⟨1, 0, 0, xArg, oneArg⟩, ⟨12, 0, 0, oneArg, xArg⟩], []⟩
def kLife : KindV := ⟨⟨#[108, 105, 102, 101]⟩, [⟨⟨#[120]⟩, 8, 0⟩]⟩
def twoK : List KindV := [kTwo, kLife]
theorem bad_E : sysE twoK (olderV []) = 8 := by kernel_rfl
theorem old_E : sysE twoK (olderV [0]) = 0 := by kernel_rfl
theorem kLife_at {W w' : World} (h : TwoAt W w') : SlAt 3 FieldAt w' (some ⟨W.heap.size + 1, 0, none⟩) kLife.fields := by
  obtain ⟨hb, h0, h1, h2⟩ := h
  intro _
  refine ⟨_, rfl, lt_of_heap h1, fun i hi => ?_⟩
  have : i = 0 := by
    have : i < 1 := hi
    omega
  subst this
  refine ⟨?_, ?_, ?_, ?_⟩
  · show w'.cell? ((⟨W.heap.size + 1, 0, none⟩ : Addr).add (0 * 3)) = _
    rw [add_zero_block, cell_of_row _ _ _ _ _ _ h1]; rfl
  · rw [add_zero_block, cell_of_row _ _ _ _ _ _ h1]; rfl
  · rw [add_zero_block, cell_of_row _ _ _ _ _ _ h1]; rfl
  · show ByteArray.size ⟨#[120]⟩ ≤ _; decide
theorem two_at {W w' : World} (h : TwoAt W w') : SlAt 2 KindAt w' (some ⟨W.heap.size + 1 + 1, 0, none⟩) twoK := by
  have hk := kTwo_at h
  have hl := kLife_at h
  obtain ⟨hb, h0, h1, h2⟩ := h
  intro _
  refine ⟨_, rfl, lt_of_heap h2, fun i hi => ?_⟩
  have hi2 : i < 2 := hi
  rcases (show i = 0 ∨ i = 1 by omega) with rfl | rfl
  · refine ⟨?_, ?_, some ⟨W.heap.size, 0, none⟩, 1, ?_, ?_, ?_, hk⟩
    · show w'.cell? ((⟨W.heap.size + 1 + 1, 0, none⟩ : Addr).add (0 * 2)) = _
      rw [add_zero_block, cell_of_row _ _ _ _ _ _ h2]; rfl
    · show ByteArray.size ⟨#[112, 108, 97, 99, 101]⟩ ≤ _; decide
    · rw [add_zero_block, cell_of_row _ _ _ _ _ _ h2]; rfl
    · show 1 ≤ 1; omega
    · show 1 ≤ 9223372036854775807; omega
  · refine ⟨?_, ?_, some ⟨W.heap.size + 1, 0, none⟩, 1, ?_, ?_, ?_, hl⟩
    · show w'.cell? ((⟨W.heap.size + 1 + 1, 0, none⟩ : Addr).add (1 * 2)) = _
      rw [Addr.add_lit, cell_of_row _ _ _ _ _ _ h2]; rfl
    · show ByteArray.size ⟨#[108, 105, 102, 101]⟩ ≤ _; decide
    · rw [Addr.add_lit]; rw [cell_of_row _ _ _ _ _ _ h2]; rfl
    · show 1 ≤ 1; omega
    · show 1 ≤ 9223372036854775807; omega
theorem two_kinds (w : World) : Calls Tryd.prog 7 #[] w fun e w' => (∃ a, e = .returned (.slice (some a) 2 2) ∧ SlAt 2 KindAt w' (some a) twoK) ∧ Below w.heap.size w w' := by
  refine (two_w w).mono ?_
  rintro e w' ⟨rfl, h⟩
  exact ⟨⟨_, rfl, two_at h⟩, h.bel⟩
def allocS (w : World) : List Obj → World
  | [] => w
  | o :: r => allocS (w.alloc o) r
theorem allocS_below : ∀ (os : List Obj) (w : World), Below w.heap.size w (allocS w os)
  | [], w => Below.refl _ _
  | o :: r, w => ((Below.refl _ _).alloc (Nat.le_refl _) o).trans ((allocS_below r (w.alloc o)).mono (by simp))
theorem allocS_get : ∀ (os : List Obj) (w : World) (i : Nat) (o : Obj), os[i]? = some o → (allocS w os).heap[w.heap.size + i]? = some o
  | [], w, i, o, h => by simp at h
  | x :: r, w, 0, o, h => by
    have h' : x = o := by simpa using h
    subst h'
    exact heap_below (heap_alloc_new w x) (allocS_below r (w.alloc x))
  | x :: r, w, i + 1, o, h => by
    have := allocS_get r (w.alloc x) i o (by simpa using h)
    rw [World.size_alloc] at this
    rw [show w.heap.size + (i + 1) = w.heap.size + 1 + i by omega]
    exact this
set_option maxRecDepth 100000 in
theorem older_w (w : World) : Calls Tryd.prog 5 #[] w fun e w' => (∃ a1 a4 a5 : Addr, e = .returned (.agg #[.string ⟨#[111, 108, 100, 101, 114]⟩, .slice (some a1) 1 1, .slice none 0 0, .slice none 0 0, .slice (some a4) 1 1, .slice (some a5) 2 2, .slice none 0 0]) ∧ IntsAt .i64 w' (some a1) [0] ∧ IntsAt .i64 w' (some a4) [0] ∧ SlAt 11 OpAt w' (some a5) (olderV [0]).ops) ∧ Below w.heap.size w w' := by
  have g0 := allocS_get [.cells #[.string ⟨#[111, 108, 100, 101, 114]⟩, .slice (some ⟨w.heap.size + 1 + 1, 0, none⟩) 1 1, .slice none 0 0, .slice none 0 0, .slice (some ⟨w.heap.size + 1 + 1 + 1, 0, none⟩) 1 1, .slice (some ⟨w.heap.size + 1 + 1 + 1 + 1, 0, none⟩) 2 2, .slice none 0 0] 27 (0, 0), .cells #[.bool true, .int .i64 0, .int .i64 0, .int .i64 0] 55 (0, 0), .cells #[.int .i64 0] 3 (0, 0), .cells #[.int .i64 0] 3 (0, 0), .cells #[.int .i64 1, .int .i64 0, .int .i64 0, .bool true, .int .i64 0, .int .i64 0, .int .i64 0, .bool false, .int .i64 1, .int .i64 0, .int .i64 0, .int .i64 12, .int .i64 0, .int .i64 0, .bool false, .int .i64 1, .int .i64 0, .int .i64 0, .bool true, .int .i64 0, .int .i64 0, .int .i64 0] 57 (0, 0)] w 0 _ rfl
  have g2 := allocS_get [.cells #[.string ⟨#[111, 108, 100, 101, 114]⟩, .slice (some ⟨w.heap.size + 1 + 1, 0, none⟩) 1 1, .slice none 0 0, .slice none 0 0, .slice (some ⟨w.heap.size + 1 + 1 + 1, 0, none⟩) 1 1, .slice (some ⟨w.heap.size + 1 + 1 + 1 + 1, 0, none⟩) 2 2, .slice none 0 0] 27 (0, 0), .cells #[.bool true, .int .i64 0, .int .i64 0, .int .i64 0] 55 (0, 0), .cells #[.int .i64 0] 3 (0, 0), .cells #[.int .i64 0] 3 (0, 0), .cells #[.int .i64 1, .int .i64 0, .int .i64 0, .bool true, .int .i64 0, .int .i64 0, .int .i64 0, .bool false, .int .i64 1, .int .i64 0, .int .i64 0, .int .i64 12, .int .i64 0, .int .i64 0, .bool false, .int .i64 1, .int .i64 0, .int .i64 0, .bool true, .int .i64 0, .int .i64 0, .int .i64 0] 57 (0, 0)] w 2 _ rfl
  have g3 := allocS_get [.cells #[.string ⟨#[111, 108, 100, 101, 114]⟩, .slice (some ⟨w.heap.size + 1 + 1, 0, none⟩) 1 1, .slice none 0 0, .slice none 0 0, .slice (some ⟨w.heap.size + 1 + 1 + 1, 0, none⟩) 1 1, .slice (some ⟨w.heap.size + 1 + 1 + 1 + 1, 0, none⟩) 2 2, .slice none 0 0] 27 (0, 0), .cells #[.bool true, .int .i64 0, .int .i64 0, .int .i64 0] 55 (0, 0), .cells #[.int .i64 0] 3 (0, 0), .cells #[.int .i64 0] 3 (0, 0), .cells #[.int .i64 1, .int .i64 0, .int .i64 0, .bool true, .int .i64 0, .int .i64 0, .int .i64 0, .bool false, .int .i64 1, .int .i64 0, .int .i64 0, .int .i64 12, .int .i64 0, .int .i64 0, .bool false, .int .i64 1, .int .i64 0, .int .i64 0, .bool true, .int .i64 0, .int .i64 0, .int .i64 0] 57 (0, 0)] w 3 _ rfl
  have g4 := allocS_get [.cells #[.string ⟨#[111, 108, 100, 101, 114]⟩, .slice (some ⟨w.heap.size + 1 + 1, 0, none⟩) 1 1, .slice none 0 0, .slice none 0 0, .slice (some ⟨w.heap.size + 1 + 1 + 1, 0, none⟩) 1 1, .slice (some ⟨w.heap.size + 1 + 1 + 1 + 1, 0, none⟩) 2 2, .slice none 0 0] 27 (0, 0), .cells #[.bool true, .int .i64 0, .int .i64 0, .int .i64 0] 55 (0, 0), .cells #[.int .i64 0] 3 (0, 0), .cells #[.int .i64 0] 3 (0, 0), .cells #[.int .i64 1, .int .i64 0, .int .i64 0, .bool true, .int .i64 0, .int .i64 0, .int .i64 0, .bool false, .int .i64 1, .int .i64 0, .int .i64 0, .int .i64 12, .int .i64 0, .int .i64 0, .bool false, .int .i64 1, .int .i64 0, .int .i64 0, .bool true, .int .i64 0, .int .i64 0, .int .i64 0] 57 (0, 0)] w 4 _ rfl
  have hb := allocS_below [.cells #[.string ⟨#[111, 108, 100, 101, 114]⟩, .slice (some ⟨w.heap.size + 1 + 1, 0, none⟩) 1 1, .slice none 0 0, .slice none 0 0, .slice (some ⟨w.heap.size + 1 + 1 + 1, 0, none⟩) 1 1, .slice (some ⟨w.heap.size + 1 + 1 + 1 + 1, 0, none⟩) 2 2, .slice none 0 0] 27 (0, 0), .cells #[.bool true, .int .i64 0, .int .i64 0, .int .i64 0] 55 (0, 0), .cells #[.int .i64 0] 3 (0, 0), .cells #[.int .i64 0] 3 (0, 0), .cells #[.int .i64 1, .int .i64 0, .int .i64 0, .bool true, .int .i64 0, .int .i64 0, .int .i64 0, .bool false, .int .i64 1, .int .i64 0, .int .i64 0, .int .i64 12, .int .i64 0, .int .i64 0, .bool false, .int .i64 1, .int .i64 0, .int .i64 0, .bool true, .int .i64 0, .int .i64 0, .int .i64 0] 57 (0, 0)] w
  simp only [allocS] at g0 g2 g3 g4 hb
  have G0 := Lib.hid g0
  have G2 := Lib.hid g2
  have G3 := Lib.hid g3
  have G4 := Lib.hid g4
  have HB := Lib.hid hb
  clear g0 g2 g3 g4 hb
  go_enter Tryd.func5, Tryd.ntmps5
  go_wp2_with fail
  refine bodyPost_ret (results_cell_row Tryd.results5 _ _ (w.heap.size) 27 _ (0, 0) _ rfl G0.out Tryd.underlying27 rfl (by kernel_rfl)) rfl ⟨⟨_, _, _, rfl, ?_, ?_, ?_⟩, HB.out⟩
  · intro _
    refine ⟨_, rfl, lt_of_heap G2.out, fun i hi => ?_⟩
    have : i = 0 := by have : i < 1 := hi; omega
    subst this
    have := cell_of_row _ _ 0 _ _ _ G2.out
    exact this
  · intro _
    refine ⟨_, rfl, lt_of_heap G3.out, fun i hi => ?_⟩
    have : i = 0 := by have : i < 1 := hi; omega
    subst this
    have := cell_of_row _ _ 0 _ _ _ G3.out
    exact this
  · intro _
    refine ⟨_, rfl, lt_of_heap G4.out, fun i hi => ?_⟩
    have hi2 : i < 2 := hi
    obtain ⟨wx, hwx⟩ : ∃ wx, wx = (((((w.alloc (.cells #[.string ⟨#[111, 108, 100, 101, 114]⟩, .slice (some ⟨w.heap.size + 1 + 1, 0, none⟩) 1 1, .slice none 0 0, .slice none 0 0, .slice (some ⟨w.heap.size + 1 + 1 + 1, 0, none⟩) 1 1, .slice (some ⟨w.heap.size + 1 + 1 + 1 + 1, 0, none⟩) 2 2, .slice none 0 0] 27 (0, 0))).alloc (.cells #[.bool true, .int .i64 0, .int .i64 0, .int .i64 0] 55 (0, 0))).alloc (.cells #[.int .i64 0] 3 (0, 0))).alloc (.cells #[.int .i64 0] 3 (0, 0))).alloc (.cells #[.int .i64 1, .int .i64 0, .int .i64 0, .bool true, .int .i64 0, .int .i64 0, .int .i64 0, .bool false, .int .i64 1, .int .i64 0, .int .i64 0, .int .i64 12, .int .i64 0, .int .i64 0, .bool false, .int .i64 1, .int .i64 0, .int .i64 0, .bool true, .int .i64 0, .int .i64 0, .int .i64 0] 57 (0, 0))) := ⟨_, rfl⟩
    have G4' := G4.out
    rw [← hwx] at G4' ⊢
    have C := fun j (v : Value) (hv : (#[.int .i64 1, .int .i64 0, .int .i64 0, .bool true, .int .i64 0, .int .i64 0, .int .i64 0, .bool false, .int .i64 1, .int .i64 0, .int .i64 0, .int .i64 12, .int .i64 0, .int .i64 0, .bool false, .int .i64 1, .int .i64 0, .int .i64 0, .bool true, .int .i64 0, .int .i64 0, .int .i64 0 ] : Array Value)[j]? = some v) => (cell_of_row _ _ j _ _ _ G4').trans hv
    rcases (show i = 0 ∨ i = 1 by omega) with rfl | rfl
    · exact ⟨⟨C 0 _ rfl, C 1 _ rfl, C 2 _ rfl⟩, ⟨C 3 _ rfl, C 4 _ rfl, C 5 _ rfl, C 6 _ rfl⟩, C 7 _ rfl, C 8 _ rfl, C 9 _ rfl, C 10 _ rfl⟩
    · exact ⟨⟨C 11 _ rfl, C 12 _ rfl, C 13 _ rfl⟩, ⟨C 14 _ rfl, C 15 _ rfl, C 16 _ rfl, C 17 _ rfl⟩, C 18 _ rfl, C 19 _ rfl, C 20 _ rfl, C 21 _ rfl⟩
end Go.Proofs.YtijeninfmjhbnaaDoor
end
/- A field is equal to itself. -/
section
namespace Go.Proofs.YtijeninfmjhbnaaDoor
open Go.ChangeShapes Go.WideShapes Go.ChangeAt Go.RowKit Go.Nm Go.Mem
set_option linter.unusedVariables false
theorem fld_same (s : ByteArray) (b l : Int) (w : World) : (Op.equalIn 10000 40 (.agg #[.string s, .int .i64 b, .int .i64 l]) (.agg #[.string s, .int .i64 b, .int .i64 l])).run Tryd.prog w = .ok true w := by
  have u3 := Tryd.underlying3
  have u4 := Tryd.underlying9
  have a3 := Tryd.isAgg3
  have z3 := Tryd.sizeOf3
  have a4 := Tryd.isAgg9
  have z4 := Tryd.sizeOf9
  rw [show (10000 : Nat) = 9999 + 1 from rfl, Op.equalIn]
  simp only [Sem.run_bind, run_underlying Tryd.underlying40, Result.andThen_ok]
  go_simp
theorem fld_neq (s : ByteArray) (b l : Int) (w : World) : (binOp .neq 40 (.agg #[.string s, .int .i64 b, .int .i64 l]) (.agg #[.string s, .int .i64 b, .int .i64 l])).run Tryd.prog w = .ok (.bool false) w := by
  have h := fld_same s b l
  simp [binOp, Op.equal, Op.maxDepth, h]
theorem fld_guard (x y : Operand) (s : ByteArray) (b l : Int) (w : World) : (eqGuard .neq 40 x y (.agg #[.string s, .int .i64 b, .int .i64 l]) (.agg #[.string s, .int .i64 b, .int .i64 l])).run Tryd.prog w = .ok () w := by
  have h : Tryd.prog.eqGuardType Tryd.prog.depth 40 = false := by kernel_rfl
  simp [eqGuard, h]
end Go.Proofs.YtijeninfmjhbnaaDoor
end
/- tourlaw3.SystemChecks. By program (gen_systlaw.py). -/
section
namespace Go.Proofs.YtijeninfmjhbnaaDoor
open Go.ChangeShapes Go.WideShapes Go.ChangeAt Go.RowKit Go.Nm Go.Mem
set_option linter.unusedVariables false
def F_slaw (g b : Nat) (ka : Option Addr) (n kc : Nat) (nm : ByteArray) (a1 a2 a3 a4 a5 a6 : Option Addr) (n1 c1 n2 c2 n3 c3 n4 c4 n5 c5 n6 c6 : Nat) (x1 x5 : Addr) (R : Int) (j : Nat) (v : Value) (w : World) : Prop :=
  match j with
  | 0 => ∃ a : Addr, v = .slice (some a) 2 2 ∧ SlAt 2 KindAt w (some a) twoK
  | 1 => v = .agg #[.string ⟨#[111, 108, 100, 101, 114]⟩, .slice (some x1) 1 1, .slice none 0 0, .slice none 0 0, .slice none 0 0, .slice (some x5) 2 2, .slice none 0 0]
  | 2 => v = .int .i64 8
  | 3 => v = .bool true
  | 4 => v = .bool true
  | 5 => ∃ a : Addr, v = .slice (some a) 2 2 ∧ SlAt 2 KindAt w (some a) twoK
  | 6 => ∃ y1 y4 y5 : Addr, v = .agg #[.string ⟨#[111, 108, 100, 101, 114]⟩, .slice (some y1) 1 1, .slice none 0 0, .slice none 0 0, .slice (some y4) 1 1, .slice (some y5) 2 2, .slice none 0 0] ∧ IntsAt .i64 w (some y1) [0] ∧ IntsAt .i64 w (some y4) [0] ∧ SlAt 11 OpAt w (some y5) (olderV [0]).ops
  | 7 => v = .int .i64 0
  | 8 => v = .bool true
  | 9 => v = .bool true
  | 10 => v = .bool true
  | 11 => v = .slice ka n kc
  | 12 => v = .agg #[.string nm, .slice a1 n1 c1, .slice a2 n2 c2, .slice a3 n3 c3, .slice a4 n4 c4, .slice a5 n5 c5, .slice a6 n6 c6]
  | 13 => v = .int .i64 R
  | 14 => v = .slice ka n kc
  | 15 => v = .agg #[.string nm, .slice a1 n1 c1, .slice a2 n2 c2, .slice a3 n3 c3, .slice a4 n4 c4, .slice a5 n5 c5, .slice a6 n6 c6]
  | 16 => v = .int .i64 R
  | 17 => v = .bool true
  | 18 => v = .bool true
  | 19 => v = .bool true
  | _ => True
theorem F_slaw_mono (g b : Nat) (ka : Option Addr) (n kc : Nat) (nm : ByteArray) (a1 a2 a3 a4 a5 a6 : Option Addr) (n1 c1 n2 c2 n3 c3 n4 c4 n5 c5 n6 c6 : Nat) (x1 x5 : Addr) (R : Int) : Facts (F_slaw g b ka n kc nm a1 a2 a3 a4 a5 a6 n1 c1 n2 c2 n3 c3 n4 c4 n5 c5 n6 c6 x1 x5 R) := ⟨by
  intro j v w w' h hb
  unfold F_slaw at h ⊢
  split at h
  all_goals first
    | exact h
    | (obtain ⟨a, e, hs⟩ := h; exact ⟨a, e, hs.below KindAt.abides hb⟩)
    | (obtain ⟨y1, y4, y5, e, g1, g4, g5⟩ := h; exact ⟨y1, y4, y5, e, g1.below hb, g4.below hb, g5.below OpAt.abides hb⟩)
    | trivial⟩
theorem list20 {α : Type} {vs : List α} (h : vs.length = 20) : ∃ x0 x1 x2 x3 x4 x5 x6 x7 x8 x9 x10 x11 x12 x13 x14 x15 x16 x17 x18 x19, vs = [x0, x1, x2, x3, x4, x5, x6, x7, x8, x9, x10, x11, x12, x13, x14, x15, x16, x17, x18, x19] := by
  obtain ⟨x0, t0, rfl, h0⟩ := cons_of h
  obtain ⟨x1, t1, rfl, h1⟩ := cons_of h0
  obtain ⟨x2, t2, rfl, h2⟩ := cons_of h1
  obtain ⟨x3, t3, rfl, h3⟩ := cons_of h2
  obtain ⟨x4, t4, rfl, h4⟩ := cons_of h3
  obtain ⟨x5, t5, rfl, h5⟩ := cons_of h4
  obtain ⟨x6, t6, rfl, h6⟩ := cons_of h5
  obtain ⟨x7, t7, rfl, h7⟩ := cons_of h6
  obtain ⟨x8, t8, rfl, h8⟩ := cons_of h7
  obtain ⟨x9, t9, rfl, h9⟩ := cons_of h8
  obtain ⟨x10, t10, rfl, h10⟩ := cons_of h9
  obtain ⟨x11, t11, rfl, h11⟩ := cons_of h10
  obtain ⟨x12, t12, rfl, h12⟩ := cons_of h11
  obtain ⟨x13, t13, rfl, h13⟩ := cons_of h12
  obtain ⟨x14, t14, rfl, h14⟩ := cons_of h13
  obtain ⟨x15, t15, rfl, h15⟩ := cons_of h14
  obtain ⟨x16, t16, rfl, h16⟩ := cons_of h15
  obtain ⟨x17, t17, rfl, h17⟩ := cons_of h16
  obtain ⟨x18, t18, rfl, h18⟩ := cons_of h17
  obtain ⟨x19, t19, rfl, h19⟩ := cons_of h18
  exact ⟨x0, x1, x2, x3, x4, x5, x6, x7, x8, x9, x10, x11, x12, x13, x14, x15, x16, x17, x18, x19, by rw [List.eq_nil_of_length_eq_zero h19]⟩

theorem smallS_older (ws : List Int) (h : ws.length ≤ 1) : SmallS (olderV ws) := ⟨by show 1 ≤ 1048576; omega, by show 0 ≤ 1048576; omega, by show 0 ≤ 1048576; omega, by show ws.length ≤ 1048576; omega, by show 2 ≤ 1048576; omega, by show 0 ≤ 1048576; omega, fun z hz => (by cases hz), by show ByteArray.size ⟨#[111, 108, 100, 101, 114]⟩ ≤ _; decide⟩
theorem older_in {w : World} {a1 a5 : Addr} {a4 : Option Addr} {n4 c4 : Nat} {ws : List Int} (hw : ws.length = n4) (hc : n4 ≤ c4) (hc1 : c4 ≤ 1) (h1 : IntsAt .i64 w (some a1) [0]) (h4 : IntsAt .i64 w a4 ws) (h5 : SlAt 11 OpAt w (some a5) (olderV [0]).ops) :
    SystIn w (.agg #[.string ⟨#[111, 108, 100, 101, 114]⟩, .slice (some a1) 1 1, .slice none 0 0, .slice none 0 0, .slice a4 n4 c4, .slice (some a5) 2 2, .slice none 0 0]) (olderV ws) := by
  refine ⟨some a1, 1, none, 0, none, 0, a4, c4, some a5, 2, none, 0, by rw [← hw]; rfl, ⟨h1, fun h => absurd h (Nat.lt_irrefl 0), fun h => absurd h (Nat.lt_irrefl 0), h4, h5, fun h => absurd h (Nat.lt_irrefl 0)⟩, ⟨Nat.le_refl 1, Nat.le_refl 0, Nat.le_refl 0, by rw [← hw] at hc; exact hc, Nat.le_refl 2, Nat.le_refl 0⟩, ⟨by decide, by decide, by decide, by have : maxLen = 9223372036854775807 := rfl; omega, by decide, by decide⟩, by show ByteArray.size ⟨#[111, 108, 100, 101, 114]⟩ ≤ _; decide⟩
set_option maxHeartbeats 4000000 in
set_option maxRecDepth 100000 in
theorem walk_SystemChecks (ks : List KindV) (ka : Option Addr) (n kc : Nat) (hn : ks.length = n) (h1 : n ≤ 1048576) (hkc : n ≤ kc) (hkm : kc ≤ 9223372036854775807) (s : SystV) (v : Value) (W : World) (hz : SlAt 2 KindAt W ka ks) (hv : SystIn W v s) (hs : SmallS s) :
    Calls Tryd.prog 3 #[.slice ka n kc, v] W fun e w' => e = .returned (.bool true) ∧ Below W.heap.size W w' := by
  have hvin := hv
  obtain ⟨a1, c1, a2, c2, a3, c3, a4, c4, a5, c5, a6, c6, rfl, _⟩ := hv.out
  obtain ⟨R, hR⟩ : ∃ R, R = sysE ks s := ⟨_, rfl⟩
  obtain ⟨nm, hnm⟩ : ∃ x, x = s.name := ⟨_, rfl⟩
  obtain ⟨n1, hn1⟩ : ∃ x, x = s.withs.length := ⟨_, rfl⟩
  obtain ⟨n2, hn2⟩ : ∃ x, x = s.without.length := ⟨_, rfl⟩
  obtain ⟨n3, hn3⟩ : ∃ x, x = s.reads.length := ⟨_, rfl⟩
  obtain ⟨n4, hn4⟩ : ∃ x, x = s.writes.length := ⟨_, rfl⟩
  obtain ⟨n5, hn5⟩ : ∃ x, x = s.ops.length := ⟨_, rfl⟩
  obtain ⟨n6, hn6⟩ : ∃ x, x = s.spawn.length := ⟨_, rfl⟩
  rw [← hnm, ← hn1, ← hn2, ← hn3, ← hn4, ← hn5, ← hn6] at hvin ⊢
  have hb0 := (Below.refl W.heap.size W).alloc (Nat.le_refl _) (.cells #[.string nm, .slice a1 n1 c1, .slice a2 n2 c2, .slice a3 n3 c3, .slice a4 n4 c4, .slice a5 n5 c5, .slice a6 n6 c6] 27)
  have hrow := heap_alloc_new W (.cells #[.string nm, .slice a1 n1 c1, .slice a2 n2 c2, .slice a3 n3 c3, .slice a4 n4 c4, .slice a5 n5 c5, .slice a6 n6 c6] 27)
  obtain ⟨w0, hw0⟩ : ∃ w, w = W.alloc (.cells #[.string nm, .slice a1 n1 c1, .slice a2 n2 c2, .slice a3 n3 c3, .slice a4 n4 c4, .slice a5 n5 c5, .slice a6 n6 c6] 27) := ⟨_, rfl⟩
  rw [← hw0] at hb0 hrow
  have HW0 := Lib.hid hw0
  obtain ⟨g, hg⟩ : ∃ g, g = W.heap.size := ⟨_, rfl⟩
  rw [← hg] at hrow
  have HG := Lib.hid hg
  have HB := Lib.hid hb0
  have HROW := Lib.hid hrow
  have HV := Lib.hid hvin
  have HZ := Lib.hid hz
  have HS := Lib.hid hs
  have HN := Lib.hid hn
  have HK := Lib.hid (And.intro h1 (And.intro hkc hkm))
  have HR := Lib.hid hR
  have CO := Lib.hid (fun w => older_w w)
  clear hw0 hg hb0 hrow hvin hv hz hs hn h1 hkc hkm hR hnm hn1 hn2 hn3 hn4 hn5 hn6
  go_enter Tryd.func3, Tryd.ntmps3
  go_wp2_with fail
  rw [← HW0.out, ← HG.out]
  refine (CO.out _).mono ?_
  rintro e w1 ⟨⟨x1, x4, x5, rfl, i1, i4, i5⟩, hb1⟩
  have HB1 := Lib.hid (bt HB.out hb1)
  have HROW1 := Lib.hid (heap_below HROW.out hb1)
  have HI1 := Lib.hid i1
  have HI5 := Lib.hid i5
  have hbx := (Below.refl w1.heap.size w1).alloc (Nat.le_refl _) (.cells #[.string ⟨#[111, 108, 100, 101, 114]⟩, .slice (some x1) 1 1, .slice none 0 0, .slice none 0 0, .slice none 0 0, .slice (some x5) 2 2, .slice none 0 0] 27)
  have hbad := heap_alloc_new w1 (.cells #[.string ⟨#[111, 108, 100, 101, 114]⟩, .slice (some x1) 1 1, .slice none 0 0, .slice none 0 0, .slice none 0 0, .slice (some x5) 2 2, .slice none 0 0] 27)
  obtain ⟨w2, hw2⟩ : ∃ w, w = w1.alloc (.cells #[.string ⟨#[111, 108, 100, 101, 114]⟩, .slice (some x1) 1 1, .slice none 0 0, .slice none 0 0, .slice none 0 0, .slice (some x5) 2 2, .slice none 0 0] 27) := ⟨_, rfl⟩
  rw [← hw2] at hbx hbad
  obtain ⟨b, hb⟩ : ∃ b, b = w1.heap.size := ⟨_, rfl⟩
  rw [← hb] at hbad
  have HBB := Lib.hid hb
  have HW2 := Lib.hid hw2
  have HBAD := Lib.hid hbad
  have HB2 := Lib.hid (bt HB1.out hbx)
  have HROWX := Lib.hid (heap_below HROW1.out hbx)
  have A1 := Lib.hid (fun w' (hb : Below w2.heap.size w2 w') (a : Addr) (hs : SlAt 2 KindAt w' (some a) twoK) => sys_Check sorts_comps twoK (some a) 2 2 rfl (by omega) (by omega) (by omega) (olderV []) _ w' hs (older_in (a4 := none) (n4 := 0) (c4 := 0) (ws := []) rfl (Nat.le_refl 0) (by omega) (HI1.out.below (bt hbx hb)) (fun h => absurd h (Nat.lt_irrefl 0)) (HI5.out.below OpAt.abides (bt hbx hb))) (smallS_older [] (by decide)))
  have A2 := Lib.hid (fun w' (hb : Below w2.heap.size w2 w') (a : Addr) (hs : SlAt 2 KindAt w' (some a) twoK) (y1 y4 y5 : Addr) g1 g4 g5 => sys_Check sorts_comps twoK (some a) 2 2 rfl (by omega) (by omega) (by omega) (olderV [0]) _ w' hs (older_in (a1 := y1) (a5 := y5) (a4 := some y4) (n4 := 1) (c4 := 1) (ws := [0]) rfl (Nat.le_refl 1) (by omega) g1 g4 g5) (smallS_older [0] (by decide)))
  have A3 := Lib.hid (fun w' (hb : Below w2.heap.size w2 w') => sys_Check sorts_comps ks ka n kc HN.out HK.out.1 HK.out.2.1 HK.out.2.2 s _ w' (HZ.out.below KindAt.abides (bt HB2.out hb)) (HV.out.below (bt HB2.out hb)) HS.out)
  have A4 := Lib.hid (fun w' (hb : Below w2.heap.size w2 w') => ref_SystemError ks ka n kc HN.out HK.out.1 s _ w' (HZ.out.below KindAt.abides (bt HB2.out hb)) (HV.out.below (bt HB2.out hb)) HS.out)
  rw [bad_E] at A1
  rw [old_E] at A2
  rw [← HR.out] at A3 A4
  clear i1 i4 i5 hb1 HB HROW HW0 hb hbx hbad hw2 CO
  go_wp2_with fail
  rw [← HW2.out, ← HBB.out]
  clear HW2 HBB
  refine wp_region_facts_t rfl 20 (by kernel_rfl) (F_slaw g b ka n kc nm a1 a2 a3 a4 a5 a6 n1 c1 n2 c2 n3 c3 n4 c4 n5 c5 n6 c6 x1 x5 R) (F_slaw_mono g b ka n kc nm a1 a2 a3 a4 a5 a6 n1 c1 n2 c2 n3 c3 n4 c4 n5 c5 n6 c6 x1 x5 R) ?_ ?_
  · refine ⟨?_, ?_, ?_, ?_, ?_, ?_, ?_, ?_, ?_, ?_, ?_, ?_, ?_, ?_, ?_, ?_, ?_, ?_, ?_, ?_, trivial⟩
    · intro vs w' F hb hd hF hl hT
      refine one_call _ _ rfl rfl (enters_of Tryd.func7 (by kernel_rfl) rfl) #[] (by simp) ?_
      refine (two_kinds w').mono ?_
      rintro e2 w2 ⟨⟨a, rfl, hs⟩, hb2⟩
      exact ⟨_, rfl, _, rfl, hb2, a, rfl, hs⟩
    · intro vs w' F hb hd hF hl hT
      have e := (hF 5).trans (look_out _ 5 _ _ (by kernel_rfl))
      exact one_load_row 27 _ rfl rfl b #[.string ⟨#[111, 108, 100, 101, 114]⟩, .slice (some x1) 1 1, .slice none 0 0, .slice none 0 0, .slice none 0 0, .slice (some x5) 2 2, .slice none 0 0] 27 (0, 0) e (heap_below HBAD.out hb) _ Tryd.underlying27 rfl (by kernel_rfl) ⟨_, rfl, Below.refl _ _, rfl⟩
    · intro vs w' F hb hd hF hl hT
      have e2 := (((hF 9).trans (look_at _ 9 1 _ _ (by kernel_rfl) (by kernel_rfl) hl)).trans (dep_of (Fact := F_slaw g b ka n kc nm a1 a2 a3 a4 a5 a6 n1 c1 n2 c2 n3 c3 n4 c4 n5 c5 n6 c6 x1 x5 R) hd 1 (by kernel_rfl)))
      obtain ⟨a, hv, hs⟩ := (dep_of (Fact := F_slaw g b ka n kc nm a1 a2 a3 a4 a5 a6 n1 c1 n2 c2 n3 c3 n4 c4 n5 c5 n6 c6 x1 x5 R) hd 0 (by kernel_rfl))
      have e1 := ((hF 8).trans (look_at _ 8 0 _ _ (by kernel_rfl) (by kernel_rfl) hl)).trans hv
      refine one_call _ _ rfl rfl (enters_of Tryd.func6 (by kernel_rfl) rfl) #[.slice (some a) 2 2, .agg #[.string ⟨#[111, 108, 100, 101, 114]⟩, .slice (some x1) 1 1, .slice none 0 0, .slice none 0 0, .slice none 0 0, .slice (some x5) 2 2, .slice none 0 0]] (eval2 e1 e2) ?_
      refine (A1.out w' hb a hs).mono ?_
      rintro e2 w2 ⟨rfl, hb2⟩
      exact ⟨_, rfl, _, rfl, hb2, rfl⟩
    · intro vs w' F hb hd hF hl hT
      have e1 := ((hF 10).trans (look_at _ 10 2 _ _ (by kernel_rfl) (by kernel_rfl) hl)).trans (dep_of (Fact := F_slaw g b ka n kc nm a1 a2 a3 a4 a5 a6 n1 c1 n2 c2 n3 c3 n4 c4 n5 c5 n6 c6 x1 x5 R) hd 2 (by kernel_rfl))
      exact one_int_eq _ _ _ _ rfl rfl _ _ _ true e1 rfl (beq_self_eq_true _) ⟨_, rfl, Below.refl _ _, rfl⟩
    · intro vs w' F hb hd hF hl hT
      have e := ((hF 11).trans (look_at _ 11 3 _ _ (by kernel_rfl) (by kernel_rfl) hl)).trans (dep_of (Fact := F_slaw g b ka n kc nm a1 a2 a3 a4 a5 a6 n1 c1 n2 c2 n3 c3 n4 c4 n5 c5 n6 c6 x1 x5 R) hd 3 (by kernel_rfl))
      exact one_move _ rfl (by first | exact Or.inl rfl | exact Or.inr rfl) ⟨_, rfl, Below.refl _ _, e⟩
    · intro vs w' F hb hd hF hl hT
      have eg := ((hF 12).trans (look_at _ 12 4 _ _ (by kernel_rfl) (by kernel_rfl) hl)).trans (dep_of (Fact := F_slaw g b ka n kc nm a1 a2 a3 a4 a5 a6 n1 c1 n2 c2 n3 c3 n4 c4 n5 c5 n6 c6 x1 x5 R) hd 4 (by kernel_rfl))
      refine wpList_on rfl (t := 12) (by kernel_rfl) eg ?_
      refine one_call _ _ rfl rfl (enters_of Tryd.func7 (by kernel_rfl) rfl) #[] (by simp) ?_
      refine (two_kinds w').mono ?_
      rintro e2 w2 ⟨⟨a, rfl, hs⟩, hb2⟩
      exact ⟨_, rfl, _, rfl, hb2, a, rfl, hs⟩
    · intro vs w' F hb hd hF hl hT
      have eg := ((hF 12).trans (look_at _ 12 4 _ _ (by kernel_rfl) (by kernel_rfl) hl)).trans (dep_of (Fact := F_slaw g b ka n kc nm a1 a2 a3 a4 a5 a6 n1 c1 n2 c2 n3 c3 n4 c4 n5 c5 n6 c6 x1 x5 R) hd 4 (by kernel_rfl))
      refine wpList_on rfl (t := 12) (by kernel_rfl) eg ?_
      refine one_call _ _ rfl rfl (enters_of Tryd.func5 (by kernel_rfl) rfl) #[] (by simp) ?_
      refine (older_w w').mono ?_
      rintro e2 w2 ⟨⟨y1, y4, y5, rfl, g1, g4, g5⟩, hb2⟩
      exact ⟨_, rfl, _, rfl, hb2, y1, y4, y5, rfl, g1, g4, g5⟩
    · intro vs w' F hb hd hF hl hT
      have eg := ((hF 12).trans (look_at _ 12 4 _ _ (by kernel_rfl) (by kernel_rfl) hl)).trans (dep_of (Fact := F_slaw g b ka n kc nm a1 a2 a3 a4 a5 a6 n1 c1 n2 c2 n3 c3 n4 c4 n5 c5 n6 c6 x1 x5 R) hd 4 (by kernel_rfl))
      refine wpList_on rfl (t := 12) (by kernel_rfl) eg ?_
      obtain ⟨a, hv, hs⟩ := (dep_of (Fact := F_slaw g b ka n kc nm a1 a2 a3 a4 a5 a6 n1 c1 n2 c2 n3 c3 n4 c4 n5 c5 n6 c6 x1 x5 R) hd 5 (by kernel_rfl))
      have e1 := ((hF 13).trans (look_at _ 13 5 _ _ (by kernel_rfl) (by kernel_rfl) hl)).trans hv
      obtain ⟨y1, y4, y5, hv2, g1, g4, g5⟩ := (dep_of (Fact := F_slaw g b ka n kc nm a1 a2 a3 a4 a5 a6 n1 c1 n2 c2 n3 c3 n4 c4 n5 c5 n6 c6 x1 x5 R) hd 6 (by kernel_rfl))
      have e2 := ((hF 14).trans (look_at _ 14 6 _ _ (by kernel_rfl) (by kernel_rfl) hl)).trans hv2
      refine one_call _ _ rfl rfl (enters_of Tryd.func6 (by kernel_rfl) rfl) #[.slice (some a) 2 2, .agg #[.string ⟨#[111, 108, 100, 101, 114]⟩, .slice (some y1) 1 1, .slice none 0 0, .slice none 0 0, .slice (some y4) 1 1, .slice (some y5) 2 2, .slice none 0 0]] (eval2 e1 e2) ?_
      refine (A2.out w' hb a hs y1 y4 y5 g1 g4 g5).mono ?_
      rintro e2 w2 ⟨rfl, hb2⟩
      exact ⟨_, rfl, _, rfl, hb2, rfl⟩
    · intro vs w' F hb hd hF hl hT
      have eg := ((hF 12).trans (look_at _ 12 4 _ _ (by kernel_rfl) (by kernel_rfl) hl)).trans (dep_of (Fact := F_slaw g b ka n kc nm a1 a2 a3 a4 a5 a6 n1 c1 n2 c2 n3 c3 n4 c4 n5 c5 n6 c6 x1 x5 R) hd 4 (by kernel_rfl))
      refine wpList_on rfl (t := 12) (by kernel_rfl) eg ?_
      have e1 := ((hF 15).trans (look_at _ 15 7 _ _ (by kernel_rfl) (by kernel_rfl) hl)).trans (dep_of (Fact := F_slaw g b ka n kc nm a1 a2 a3 a4 a5 a6 n1 c1 n2 c2 n3 c3 n4 c4 n5 c5 n6 c6 x1 x5 R) hd 7 (by kernel_rfl))
      exact one_int_eq _ _ _ _ rfl rfl _ _ _ true e1 rfl (beq_self_eq_true _) ⟨_, rfl, Below.refl _ _, rfl⟩
    · intro vs w' F hb hd hF hl hT
      have ec := ((hF 12).trans (look_at _ 12 4 _ _ (by kernel_rfl) (by kernel_rfl) hl)).trans (dep_of (Fact := F_slaw g b ka n kc nm a1 a2 a3 a4 a5 a6 n1 c1 n2 c2 n3 c3 n4 c4 n5 c5 n6 c6 x1 x5 R) hd 4 (by kernel_rfl))
      have e := ((hF 16).trans (look_at _ 16 8 _ _ (by kernel_rfl) (by kernel_rfl) hl)).trans (dep_of (Fact := F_slaw g b ka n kc nm a1 a2 a3 a4 a5 a6 n1 c1 n2 c2 n3 c3 n4 c4 n5 c5 n6 c6 x1 x5 R) hd 8 (by kernel_rfl))
      exact one_pick_t _ _ _ rfl rfl _ ec e ⟨_, rfl, Below.refl _ _, rfl⟩
    · intro vs w' F hb hd hF hl hT
      have e := ((hF 17).trans (look_at _ 17 9 _ _ (by kernel_rfl) (by kernel_rfl) hl)).trans (dep_of (Fact := F_slaw g b ka n kc nm a1 a2 a3 a4 a5 a6 n1 c1 n2 c2 n3 c3 n4 c4 n5 c5 n6 c6 x1 x5 R) hd 9 (by kernel_rfl))
      exact one_move _ rfl (by first | exact Or.inl rfl | exact Or.inr rfl) ⟨_, rfl, Below.refl _ _, e⟩
    · intro vs w' F hb hd hF hl hT
      have eg := ((hF 18).trans (look_at _ 18 10 _ _ (by kernel_rfl) (by kernel_rfl) hl)).trans (dep_of (Fact := F_slaw g b ka n kc nm a1 a2 a3 a4 a5 a6 n1 c1 n2 c2 n3 c3 n4 c4 n5 c5 n6 c6 x1 x5 R) hd 10 (by kernel_rfl))
      refine wpList_on rfl (t := 18) (by kernel_rfl) eg ?_
      have e := (hF 0).trans (look_out _ 0 _ _ (by kernel_rfl))
      exact one_move _ rfl (by first | exact Or.inl rfl | exact Or.inr rfl) ⟨_, rfl, Below.refl _ _, e⟩
    · intro vs w' F hb hd hF hl hT
      have eg := ((hF 18).trans (look_at _ 18 10 _ _ (by kernel_rfl) (by kernel_rfl) hl)).trans (dep_of (Fact := F_slaw g b ka n kc nm a1 a2 a3 a4 a5 a6 n1 c1 n2 c2 n3 c3 n4 c4 n5 c5 n6 c6 x1 x5 R) hd 10 (by kernel_rfl))
      refine wpList_on rfl (t := 18) (by kernel_rfl) eg ?_
      have e := (hF 3).trans (look_out _ 3 _ _ (by kernel_rfl))
      exact one_load_row 27 _ rfl rfl g #[.string nm, .slice a1 n1 c1, .slice a2 n2 c2, .slice a3 n3 c3, .slice a4 n4 c4, .slice a5 n5 c5, .slice a6 n6 c6] 27 (0, 0) e (heap_below HROWX.out hb) _ Tryd.underlying27 rfl (by kernel_rfl) ⟨_, rfl, Below.refl _ _, rfl⟩
    · intro vs w' F hb hd hF hl hT
      have eg := ((hF 18).trans (look_at _ 18 10 _ _ (by kernel_rfl) (by kernel_rfl) hl)).trans (dep_of (Fact := F_slaw g b ka n kc nm a1 a2 a3 a4 a5 a6 n1 c1 n2 c2 n3 c3 n4 c4 n5 c5 n6 c6 x1 x5 R) hd 10 (by kernel_rfl))
      refine wpList_on rfl (t := 18) (by kernel_rfl) eg ?_
      refine one_call _ _ rfl rfl (enters_of Tryd.func6 (by kernel_rfl) rfl) #[.slice ka n kc, .agg #[.string nm, .slice a1 n1 c1, .slice a2 n2 c2, .slice a3 n3 c3, .slice a4 n4 c4, .slice a5 n5 c5, .slice a6 n6 c6]] (eval2 (((hF 19).trans (look_at _ 19 11 _ _ (by kernel_rfl) (by kernel_rfl) hl)).trans (dep_of (Fact := F_slaw g b ka n kc nm a1 a2 a3 a4 a5 a6 n1 c1 n2 c2 n3 c3 n4 c4 n5 c5 n6 c6 x1 x5 R) hd 11 (by kernel_rfl))) (((hF 20).trans (look_at _ 20 12 _ _ (by kernel_rfl) (by kernel_rfl) hl)).trans (dep_of (Fact := F_slaw g b ka n kc nm a1 a2 a3 a4 a5 a6 n1 c1 n2 c2 n3 c3 n4 c4 n5 c5 n6 c6 x1 x5 R) hd 12 (by kernel_rfl)))) ?_
      refine (A3.out w' hb).mono ?_
      rintro e2 w2 ⟨rfl, hb2⟩
      exact ⟨_, rfl, _, rfl, hb2, rfl⟩
    · intro vs w' F hb hd hF hl hT
      have eg := ((hF 18).trans (look_at _ 18 10 _ _ (by kernel_rfl) (by kernel_rfl) hl)).trans (dep_of (Fact := F_slaw g b ka n kc nm a1 a2 a3 a4 a5 a6 n1 c1 n2 c2 n3 c3 n4 c4 n5 c5 n6 c6 x1 x5 R) hd 10 (by kernel_rfl))
      refine wpList_on rfl (t := 18) (by kernel_rfl) eg ?_
      have e := (hF 0).trans (look_out _ 0 _ _ (by kernel_rfl))
      exact one_move _ rfl (by first | exact Or.inl rfl | exact Or.inr rfl) ⟨_, rfl, Below.refl _ _, e⟩
    · intro vs w' F hb hd hF hl hT
      have eg := ((hF 18).trans (look_at _ 18 10 _ _ (by kernel_rfl) (by kernel_rfl) hl)).trans (dep_of (Fact := F_slaw g b ka n kc nm a1 a2 a3 a4 a5 a6 n1 c1 n2 c2 n3 c3 n4 c4 n5 c5 n6 c6 x1 x5 R) hd 10 (by kernel_rfl))
      refine wpList_on rfl (t := 18) (by kernel_rfl) eg ?_
      have e := (hF 3).trans (look_out _ 3 _ _ (by kernel_rfl))
      exact one_load_row 27 _ rfl rfl g #[.string nm, .slice a1 n1 c1, .slice a2 n2 c2, .slice a3 n3 c3, .slice a4 n4 c4, .slice a5 n5 c5, .slice a6 n6 c6] 27 (0, 0) e (heap_below HROWX.out hb) _ Tryd.underlying27 rfl (by kernel_rfl) ⟨_, rfl, Below.refl _ _, rfl⟩
    · intro vs w' F hb hd hF hl hT
      have eg := ((hF 18).trans (look_at _ 18 10 _ _ (by kernel_rfl) (by kernel_rfl) hl)).trans (dep_of (Fact := F_slaw g b ka n kc nm a1 a2 a3 a4 a5 a6 n1 c1 n2 c2 n3 c3 n4 c4 n5 c5 n6 c6 x1 x5 R) hd 10 (by kernel_rfl))
      refine wpList_on rfl (t := 18) (by kernel_rfl) eg ?_
      refine one_call _ _ rfl rfl (enters_of Tryd.func8 (by kernel_rfl) rfl) #[.slice ka n kc, .agg #[.string nm, .slice a1 n1 c1, .slice a2 n2 c2, .slice a3 n3 c3, .slice a4 n4 c4, .slice a5 n5 c5, .slice a6 n6 c6]] (eval2 (((hF 22).trans (look_at _ 22 14 _ _ (by kernel_rfl) (by kernel_rfl) hl)).trans (dep_of (Fact := F_slaw g b ka n kc nm a1 a2 a3 a4 a5 a6 n1 c1 n2 c2 n3 c3 n4 c4 n5 c5 n6 c6 x1 x5 R) hd 14 (by kernel_rfl))) (((hF 23).trans (look_at _ 23 15 _ _ (by kernel_rfl) (by kernel_rfl) hl)).trans (dep_of (Fact := F_slaw g b ka n kc nm a1 a2 a3 a4 a5 a6 n1 c1 n2 c2 n3 c3 n4 c4 n5 c5 n6 c6 x1 x5 R) hd 15 (by kernel_rfl)))) ?_
      refine (A4.out w' hb).mono ?_
      rintro e2 w2 ⟨rfl, hb2⟩
      exact ⟨_, rfl, _, rfl, hb2, rfl⟩
    · intro vs w' F hb hd hF hl hT
      have eg := ((hF 18).trans (look_at _ 18 10 _ _ (by kernel_rfl) (by kernel_rfl) hl)).trans (dep_of (Fact := F_slaw g b ka n kc nm a1 a2 a3 a4 a5 a6 n1 c1 n2 c2 n3 c3 n4 c4 n5 c5 n6 c6 x1 x5 R) hd 10 (by kernel_rfl))
      refine wpList_on rfl (t := 18) (by kernel_rfl) eg ?_
      have e1 := ((hF 21).trans (look_at _ 21 13 _ _ (by kernel_rfl) (by kernel_rfl) hl)).trans (dep_of (Fact := F_slaw g b ka n kc nm a1 a2 a3 a4 a5 a6 n1 c1 n2 c2 n3 c3 n4 c4 n5 c5 n6 c6 x1 x5 R) hd 13 (by kernel_rfl))
      have e2 := ((hF 24).trans (look_at _ 24 16 _ _ (by kernel_rfl) (by kernel_rfl) hl)).trans (dep_of (Fact := F_slaw g b ka n kc nm a1 a2 a3 a4 a5 a6 n1 c1 n2 c2 n3 c3 n4 c4 n5 c5 n6 c6 x1 x5 R) hd 16 (by kernel_rfl))
      exact one_int_eq _ _ _ _ rfl rfl _ _ _ true e1 e2 (beq_self_eq_true _) ⟨_, rfl, Below.refl _ _, rfl⟩
    · intro vs w' F hb hd hF hl hT
      have ec := ((hF 18).trans (look_at _ 18 10 _ _ (by kernel_rfl) (by kernel_rfl) hl)).trans (dep_of (Fact := F_slaw g b ka n kc nm a1 a2 a3 a4 a5 a6 n1 c1 n2 c2 n3 c3 n4 c4 n5 c5 n6 c6 x1 x5 R) hd 10 (by kernel_rfl))
      have e := ((hF 25).trans (look_at _ 25 17 _ _ (by kernel_rfl) (by kernel_rfl) hl)).trans (dep_of (Fact := F_slaw g b ka n kc nm a1 a2 a3 a4 a5 a6 n1 c1 n2 c2 n3 c3 n4 c4 n5 c5 n6 c6 x1 x5 R) hd 17 (by kernel_rfl))
      exact one_pick_t _ _ _ rfl rfl _ ec e ⟨_, rfl, Below.refl _ _, rfl⟩
    · intro vs w' F hb hd hF hl hT
      have e := ((hF 26).trans (look_at _ 26 18 _ _ (by kernel_rfl) (by kernel_rfl) hl)).trans (dep_of (Fact := F_slaw g b ka n kc nm a1 a2 a3 a4 a5 a6 n1 c1 n2 c2 n3 c3 n4 c4 n5 c5 n6 c6 x1 x5 R) hd 18 (by kernel_rfl))
      exact one_move _ rfl (by first | exact Or.inl rfl | exact Or.inr rfl) ⟨_, rfl, Below.refl _ _, e⟩
  · intro vs8 W8 hl hb hI
    have hv : vs8.getD 19 undef = .bool true := hI 19 (by omega)
    obtain ⟨x0, x1, x2, x3, x4, x5, x6, x7, x8, x9, x10, x11, x12, x13, x14, x15, x16, x17, x18, x19, hvs⟩ := list20 hl
    subst hvs
    replace hv : x19 = .bool true := hv
    subst hv
    clear hI hl
    simp only [fillAll, Act.put, List.setIfInBounds_toArray, List.set_cons_succ, List.set_cons_zero]
    show wpList _ _ _ [] _ _
    go_wp2
    go_ret
    exact ⟨rfl, bt HB2.out hb⟩
end Go.Proofs.YtijeninfmjhbnaaDoor
end
