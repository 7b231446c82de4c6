/- Lemmas for the law MigrateBack: SystQ, TwoA, KindTwo, SystOld, MigLaw. No conditions. -/
import Derived.Test.YtijeninfmjhbnaaDoorM27
import Derived.Test.YtijeninfmjhbnaaDoorM05
import Derived.Test.YtijeninfmjhbnaaDoorM01
import Derived.Lib.SmallJoins
import Derived.ChangeArms
import Derived.Test.YtijeninfmjhbnaaDoorM06
import Derived.Test.YtijeninfmjhbnaaDoorM17
import Derived.Test.YtijeninfmjhbnaaDoorM19
import Derived.Test.YtijeninfmjhbnaaDoorM25
/- What system.Check computes: plain, by stages. -/
section
namespace Go.Proofs.YtijeninfmjhbnaaDoor
open Go.Nm
set_option linter.unusedVariables false
def fourL (s : SystV) : List (List Int) := [s.withs, s.without, s.reads, s.writes]
def setsGo (n : Nat) : List (List Int) → Int
  | [] => 0
  | l :: r => if setE n l ≠ 0 then setE n l else setsGo n r
def sy5 (ks : List KindV) (s : SystV) : Int := if fitAllE ks s.spawn ≠ 0 then fitAllE ks s.spawn else opsGo ks s.reads s.writes s.ops
def sy4 (ks : List KindV) (s : SystV) : Int := if ((s.reads ++ s.writes).any fun x => outP x s.withs) = true then 8 else sy5 ks s
def sy3 (ks : List KindV) (s : SystV) : Int := if (s.withs.any fun x => inP x s.without) = true then 10 else sy4 ks s
def sy2 (ks : List KindV) (s : SystV) : Int := if setsGo ks.length (fourL s) ≠ 0 then setsGo ks.length (fourL s) else sy3 ks s
def sy1 (ks : List KindV) (s : SystV) : Int := if nameB s.name.data.toList = false then 3 else if 20 < s.ops.length then 2 else sy2 ks s
def sysE (ks : List KindV) (s : SystV) : Int := if kindsE ks ≠ 0 then kindsE ks else sy1 ks s
theorem setGo_len (n : Nat) : ∀ (l : List Int) (last : Int), -1 ≤ last → setGo n last l = 0 → (l.length : Int) + last + 1 ≤ max (n : Int) (last + 1)
  | [], last, h0, _ => by simp; omega
  | x :: r, last, h0, h => by
    unfold setGo at h
    split at h
    · cases h
    · split at h
      · cases h
      · have := setGo_len n r x (by omega) h
        simp only [List.length_cons]
        omega
theorem setE_len {n : Nat} {l : List Int} (h : setE n l = 0) : l.length ≤ n := by
  have := setGo_len n l (-1) (by omega) h
  omega
theorem setsGo_all {n : Nat} : ∀ {L : List (List Int)}, setsGo n L = 0 → ∀ l ∈ L, setE n l = 0
  | [], _, l, hl => by cases hl
  | x :: r, h, l, hl => by
    unfold setsGo at h
    split at h
    · exact absurd h (by assumption)
    · rename_i hx
      rcases List.mem_cons.1 hl with rfl | hl
      · exact Decidable.not_not.1 hx
      · exact setsGo_all h l hl
end Go.Proofs.YtijeninfmjhbnaaDoor
end
/- tourlaw3.two; a boxed struct of three; a field handed over by value. -/
section
namespace Go.Proofs.YtijeninfmjhbnaaDoor
open Go.ChangeShapes Go.WideShapes Go.ChangeAt Go.RowKit Go.Nm Go.Mem
set_option linter.unusedVariables false
/-- what two() lays: two fields, two kinds -/
structure TwoAt (W w : World) : Prop where
  bel : Below W.heap.size W w
  f0 : w.heap[W.heap.size]? = some (.cells #[.string ⟨#[120]⟩, .int .i64 3, .int .i64 (-2)] 40 (0, 0))
  f1 : w.heap[W.heap.size + 1]? = some (.cells #[.string ⟨#[120]⟩, .int .i64 8, .int .i64 0] 40 (0, 0))
  k : w.heap[W.heap.size + 1 + 1]? = some (.cells #[.string ⟨#[112, 108, 97, 99, 101]⟩, .slice (some ⟨W.heap.size, 0, none⟩) 1 1, .string ⟨#[108, 105, 102, 101]⟩, .slice (some ⟨W.heap.size + 1, 0, none⟩) 1 1] 43 (0, 0))
theorem two_w (w : World) : Calls Tryd.prog 7 #[] w fun e w' => e = .returned (.slice (some ⟨w.heap.size + 1 + 1, 0, none⟩) 2 2) ∧ TwoAt w w' := by
  go_enter Tryd.func7, Tryd.ntmps7
  go_wp2_with fail
  go_ret
  refine ⟨rfl, (((Below.refl _ _).alloc (Nat.le_refl _) _).alloc (by simp) _).alloc (by simp; omega) _, ?_, ?_, ?_⟩
  · exact heap_keep (heap_keep (heap_alloc_new w _) _) _
  · have := heap_alloc_new (w.alloc (.cells #[.string ⟨#[120]⟩, .int .i64 3, .int .i64 (-2)] 40)) (.cells #[.string ⟨#[120]⟩, .int .i64 8, .int .i64 0] 40)
    exact heap_keep (by simpa using this) _
  · have := heap_alloc_new ((w.alloc (.cells #[.string ⟨#[120]⟩, .int .i64 3, .int .i64 (-2)] 40)).alloc (.cells #[.string ⟨#[120]⟩, .int .i64 8, .int .i64 0] 40)) (.cells #[.string ⟨#[112, 108, 97, 99, 101]⟩, .slice (some ⟨w.heap.size, 0, none⟩) 1 1, .string ⟨#[108, 105, 102, 101]⟩, .slice (some ⟨w.heap.size + 1, 0, none⟩) 1 1] 43)
    simpa using this
/-- the box's cells in a later world -/
theorem box3 {w w2 : World} {a b c : Value} {t : TypeId} (h : Below (w.alloc (.cells #[a, b, c] t)).heap.size (w.alloc (.cells #[a, b, c] t)) w2) :
    w2.cell? ⟨w.heap.size, 0, none⟩ = some a ∧ w2.cell? ⟨w.heap.size, 1, none⟩ = some b ∧ w2.cell? ⟨w.heap.size, 2, none⟩ = some c ∧ Below w.heap.size w w2 := by
  have hh := heap_below (heap_alloc_new w (.cells #[a, b, c] t)) h
  exact ⟨by rw [cell_of_row _ _ 0 _ _ _ hh]; rfl, by rw [cell_of_row _ _ 1 _ _ _ hh]; rfl, by rw [cell_of_row _ _ 2 _ _ _ hh]; rfl, ((Below.refl _ _).alloc (Nat.le_refl _) _).trans (h.mono (by simp))⟩
section
open Go.Joins Go.Deep
variable {H : Type} {enc : TypeId × Value → H} {w : World} {base : Nat} {spare : Nat → Bool} {held : Bool}
set_option maxRecDepth 100000 in
/-- a field handed over by value -/
theorem open_field {r : Reach} {b0 : Nat} {v : Value} {d : DataW H} {p : List MemPlace} (hv : Value.okWide Tryd.prog w r b0 40 v) (h : DataW.Trod enc Tryd.prog w base spare held 40 v d p) :
    ∃ (s : ByteArray) (b l : Int), v = .agg #[.string s, .int .i64 b, .int .i64 l] ∧ s.size ≤ maxLen := by
  obtain ⟨v0, v1, v2, y0, y1, y2, n, rfl, _, _, h0, h1, h2⟩ := open_agg3 Tryd.underlying40 (by kernel_rfl) (by kernel_rfl) hv h
  obtain ⟨s, e0, _, hs⟩ := DataW.trod_string Tryd.underlying9 h0
  obtain ⟨b, e1, _, _⟩ := DataW.trod_int Tryd.underlying3 h1
  obtain ⟨l, e2, _, _⟩ := DataW.trod_int Tryd.underlying3 h2
  injection e0 with e0; injection e1 with e1; injection e2 with e2
  subst e0 e1 e2
  exact ⟨s, b, l, rfl, hs⟩
end
end Go.Proofs.YtijeninfmjhbnaaDoor
end
/- The law's own first kind: its facts in plain words. -/
section
namespace Go.Proofs.YtijeninfmjhbnaaDoor
open Go.ChangeShapes Go.WideShapes Go.ChangeAt Go.RowKit Go.Nm Go.Mem
set_option linter.unusedVariables false
def kTwo : KindV := ⟨⟨#[112, 108, 97, 99, 101]⟩, [⟨⟨#[120]⟩, 3, -2⟩]⟩
theorem kTwo_ok : kindE kTwo = 0 := by kernel_rfl
theorem kTwo_fitE : fitE kTwo [9] = 0 := by kernel_rfl
theorem kTwo_fitL : fitL kTwo.fields [9] = [5] := by kernel_rfl
theorem kTwo_at {W w' : World} (h : TwoAt W w') : SlAt 3 FieldAt w' (some ⟨W.heap.size, 0, none⟩) kTwo.fields := by
  obtain ⟨hb, h0, h1, h2⟩ := h
  intro _
  refine ⟨_, rfl, lt_of_heap h0, fun i hi => ?_⟩
  have : i = 0 := by
    have : i < 1 := hi
    omega
  subst this
  refine ⟨?_, ?_, ?_, ?_⟩
  · show w'.cell? ((⟨W.heap.size, 0, none⟩ : Addr).add (0 * 3)) = _
    rw [add_zero_block, cell_of_row _ _ _ _ _ _ h0]; rfl
  · rw [add_zero_block, cell_of_row _ _ _ _ _ _ h0]; rfl
  · rw [add_zero_block, cell_of_row _ _ _ _ _ _ h0]; rfl
  · show ByteArray.size ⟨#[120]⟩ ≤ _; decide
end Go.Proofs.YtijeninfmjhbnaaDoor
end
/- tourlaw3.older, and the law's own two kinds. -/
section
namespace Go.Proofs.YtijeninfmjhbnaaDoor
open Go.ChangeShapes Go.WideShapes Go.ChangeAt Go.RowKit Go.Nm Go.Mem
set_option linter.unusedVariables false
def xArg : ArgV := ⟨true, 0, 0, 0⟩
def oneArg : ArgV := ⟨false, 1, 0, 0⟩
def olderV (ws : List Int) : SystV := ⟨⟨#[111, 108, 100, 101, 114]⟩, [0], [], [], ws, [⟨1, 0, 0, xArg, oneArg⟩, ⟨12, 0, 0, oneArg, xArg⟩], []⟩
def kLife : KindV := ⟨⟨#[108, 105, 102, 101]⟩, [⟨⟨#[120]⟩, 8, 0⟩]⟩
def twoK : List KindV := [kTwo, kLife]
theorem bad_E : sysE twoK (olderV []) = 8 := by kernel_rfl
theorem old_E : sysE twoK (olderV [0]) = 0 := by kernel_rfl
theorem kLife_at {W w' : World} (h : TwoAt W w') : SlAt 3 FieldAt w' (some ⟨W.heap.size + 1, 0, none⟩) kLife.fields := by
  obtain ⟨hb, h0, h1, h2⟩ := h
  intro _
  refine ⟨_, rfl, lt_of_heap h1, fun i hi => ?_⟩
  have : i = 0 := by
    have : i < 1 := hi
    omega
  subst this
  refine ⟨?_, ?_, ?_, ?_⟩
  · show w'.cell? ((⟨W.heap.size + 1, 0, none⟩ : Addr).add (0 * 3)) = _
    rw [add_zero_block, cell_of_row _ _ _ _ _ _ h1]; rfl
  · rw [add_zero_block, cell_of_row _ _ _ _ _ _ h1]; rfl
  · rw [add_zero_block, cell_of_row _ _ _ _ _ _ h1]; rfl
  · show ByteArray.size ⟨#[120]⟩ ≤ _; decide
theorem two_at {W w' : World} (h : TwoAt W w') : SlAt 2 KindAt w' (some ⟨W.heap.size + 1 + 1, 0, none⟩) twoK := by
  have hk := kTwo_at h
  have hl := kLife_at h
  obtain ⟨hb, h0, h1, h2⟩ := h
  intro _
  refine ⟨_, rfl, lt_of_heap h2, fun i hi => ?_⟩
  have hi2 : i < 2 := hi
  rcases (show i = 0 ∨ i = 1 by omega) with rfl | rfl
  · refine ⟨?_, ?_, some ⟨W.heap.size, 0, none⟩, 1, ?_, ?_, ?_, hk⟩
    · show w'.cell? ((⟨W.heap.size + 1 + 1, 0, none⟩ : Addr).add (0 * 2)) = _
      rw [add_zero_block, cell_of_row _ _ _ _ _ _ h2]; rfl
    · show ByteArray.size ⟨#[112, 108, 97, 99, 101]⟩ ≤ _; decide
    · rw [add_zero_block, cell_of_row _ _ _ _ _ _ h2]; rfl
    · show 1 ≤ 1; omega
    · show 1 ≤ 9223372036854775807; omega
  · refine ⟨?_, ?_, some ⟨W.heap.size + 1, 0, none⟩, 1, ?_, ?_, ?_, hl⟩
    · show w'.cell? ((⟨W.heap.size + 1 + 1, 0, none⟩ : Addr).add (1 * 2)) = _
      rw [Addr.add_lit, cell_of_row _ _ _ _ _ _ h2]; rfl
    · show ByteArray.size ⟨#[108, 105, 102, 101]⟩ ≤ _; decide
    · rw [Addr.add_lit]; rw [cell_of_row _ _ _ _ _ _ h2]; rfl
    · show 1 ≤ 1; omega
    · show 1 ≤ 9223372036854775807; omega
theorem two_kinds (w : World) : Calls Tryd.prog 7 #[] w fun e w' => (∃ a, e = .returned (.slice (some a) 2 2) ∧ SlAt 2 KindAt w' (some a) twoK) ∧ Below w.heap.size w w' := by
  refine (two_w w).mono ?_
  rintro e w' ⟨rfl, h⟩
  exact ⟨⟨_, rfl, two_at h⟩, h.bel⟩
def allocS (w : World) : List Obj → World
  | [] => w
  | o :: r => allocS (w.alloc o) r
theorem allocS_below : ∀ (os : List Obj) (w : World), Below w.heap.size w (allocS w os)
  | [], w => Below.refl _ _
  | o :: r, w => ((Below.refl _ _).alloc (Nat.le_refl _) o).trans ((allocS_below r (w.alloc o)).mono (by simp))
theorem allocS_get : ∀ (os : List Obj) (w : World) (i : Nat) (o : Obj), os[i]? = some o → (allocS w os).heap[w.heap.size + i]? = some o
  | [], w, i, o, h => by simp at h
  | x :: r, w, 0, o, h => by
    have h' : x = o := by simpa using h
    subst h'
    exact heap_below (heap_alloc_new w x) (allocS_below r (w.alloc x))
  | x :: r, w, i + 1, o, h => by
    have := allocS_get r (w.alloc x) i o (by simpa using h)
    rw [World.size_alloc] at this
    rw [show w.heap.size + (i + 1) = w.heap.size + 1 + i by omega]
    exact this
set_option maxRecDepth 100000 in
theorem older_w (w : World) : Calls Tryd.prog 5 #[] w fun e w' => (∃ a1 a4 a5 : Addr, e = .returned (.agg #[.string ⟨#[111, 108, 100, 101, 114]⟩, .slice (some a1) 1 1, .slice none 0 0, .slice none 0 0, .slice (some a4) 1 1, .slice (some a5) 2 2, .slice none 0 0]) ∧ IntsAt .i64 w' (some a1) [0] ∧ IntsAt .i64 w' (some a4) [0] ∧ SlAt 11 OpAt w' (some a5) (olderV [0]).ops) ∧ Below w.heap.size w w' := by
  have g0 := allocS_get [.cells #[.string ⟨#[111, 108, 100, 101, 114]⟩, .slice (some ⟨w.heap.size + 1 + 1, 0, none⟩) 1 1, .slice none 0 0, .slice none 0 0, .slice (some ⟨w.heap.size + 1 + 1 + 1, 0, none⟩) 1 1, .slice (some ⟨w.heap.size + 1 + 1 + 1 + 1, 0, none⟩) 2 2, .slice none 0 0] 27 (0, 0), .cells #[.bool true, .int .i64 0, .int .i64 0, .int .i64 0] 55 (0, 0), .cells #[.int .i64 0] 3 (0, 0), .cells #[.int .i64 0] 3 (0, 0), .cells #[.int .i64 1, .int .i64 0, .int .i64 0, .bool true, .int .i64 0, .int .i64 0, .int .i64 0, .bool false, .int .i64 1, .int .i64 0, .int .i64 0, .int .i64 12, .int .i64 0, .int .i64 0, .bool false, .int .i64 1, .int .i64 0, .int .i64 0, .bool true, .int .i64 0, .int .i64 0, .int .i64 0] 57 (0, 0)] w 0 _ rfl
  have g2 := allocS_get [.cells #[.string ⟨#[111, 108, 100, 101, 114]⟩, .slice (some ⟨w.heap.size + 1 + 1, 0, none⟩) 1 1, .slice none 0 0, .slice none 0 0, .slice (some ⟨w.heap.size + 1 + 1 + 1, 0, none⟩) 1 1, .slice (some ⟨w.heap.size + 1 + 1 + 1 + 1, 0, none⟩) 2 2, .slice none 0 0] 27 (0, 0), .cells #[.bool true, .int .i64 0, .int .i64 0, .int .i64 0] 55 (0, 0), .cells #[.int .i64 0] 3 (0, 0), .cells #[.int .i64 0] 3 (0, 0), .cells #[.int .i64 1, .int .i64 0, .int .i64 0, .bool true, .int .i64 0, .int .i64 0, .int .i64 0, .bool false, .int .i64 1, .int .i64 0, .int .i64 0, .int .i64 12, .int .i64 0, .int .i64 0, .bool false, .int .i64 1, .int .i64 0, .int .i64 0, .bool true, .int .i64 0, .int .i64 0, .int .i64 0] 57 (0, 0)] w 2 _ rfl
  have g3 := allocS_get [.cells #[.string ⟨#[111, 108, 100, 101, 114]⟩, .slice (some ⟨w.heap.size + 1 + 1, 0, none⟩) 1 1, .slice none 0 0, .slice none 0 0, .slice (some ⟨w.heap.size + 1 + 1 + 1, 0, none⟩) 1 1, .slice (some ⟨w.heap.size + 1 + 1 + 1 + 1, 0, none⟩) 2 2, .slice none 0 0] 27 (0, 0), .cells #[.bool true, .int .i64 0, .int .i64 0, .int .i64 0] 55 (0, 0), .cells #[.int .i64 0] 3 (0, 0), .cells #[.int .i64 0] 3 (0, 0), .cells #[.int .i64 1, .int .i64 0, .int .i64 0, .bool true, .int .i64 0, .int .i64 0, .int .i64 0, .bool false, .int .i64 1, .int .i64 0, .int .i64 0, .int .i64 12, .int .i64 0, .int .i64 0, .bool false, .int .i64 1, .int .i64 0, .int .i64 0, .bool true, .int .i64 0, .int .i64 0, .int .i64 0] 57 (0, 0)] w 3 _ rfl
  have g4 := allocS_get [.cells #[.string ⟨#[111, 108, 100, 101, 114]⟩, .slice (some ⟨w.heap.size + 1 + 1, 0, none⟩) 1 1, .slice none 0 0, .slice none 0 0, .slice (some ⟨w.heap.size + 1 + 1 + 1, 0, none⟩) 1 1, .slice (some ⟨w.heap.size + 1 + 1 + 1 + 1, 0, none⟩) 2 2, .slice none 0 0] 27 (0, 0), .cells #[.bool true, .int .i64 0, .int .i64 0, .int .i64 0] 55 (0, 0), .cells #[.int .i64 0] 3 (0, 0), .cells #[.int .i64 0] 3 (0, 0), .cells #[.int .i64 1, .int .i64 0, .int .i64 0, .bool true, .int .i64 0, .int .i64 0, .int .i64 0, .bool false, .int .i64 1, .int .i64 0, .int .i64 0, .int .i64 12, .int .i64 0, .int .i64 0, .bool false, .int .i64 1, .int .i64 0, .int .i64 0, .bool true, .int .i64 0, .int .i64 0, .int .i64 0] 57 (0, 0)] w 4 _ rfl
  have hb := allocS_below [.cells #[.string ⟨#[111, 108, 100, 101, 114]⟩, .slice (some ⟨w.heap.size + 1 + 1, 0, none⟩) 1 1, .slice none 0 0, .slice none 0 0, .slice (some ⟨w.heap.size + 1 + 1 + 1, 0, none⟩) 1 1, .slice (some ⟨w.heap.size + 1 + 1 + 1 + 1, 0, none⟩) 2 2, .slice none 0 0] 27 (0, 0), .cells #[.bool true, .int .i64 0, .int .i64 0, .int .i64 0] 55 (0, 0), .cells #[.int .i64 0] 3 (0, 0), .cells #[.int .i64 0] 3 (0, 0), .cells #[.int .i64 1, .int .i64 0, .int .i64 0, .bool true, .int .i64 0, .int .i64 0, .int .i64 0, .bool false, .int .i64 1, .int .i64 0, .int .i64 0, .int .i64 12, .int .i64 0, .int .i64 0, .bool false, .int .i64 1, .int .i64 0, .int .i64 0, .bool true, .int .i64 0, .int .i64 0, .int .i64 0] 57 (0, 0)] w
  simp only [allocS] at g0 g2 g3 g4 hb
  have G0 := Lib.hid g0
  have G2 := Lib.hid g2
  have G3 := Lib.hid g3
  have G4 := Lib.hid g4
  have HB := Lib.hid hb
  clear g0 g2 g3 g4 hb
  go_enter Tryd.func5, Tryd.ntmps5
  go_wp2_with fail
  refine bodyPost_ret (results_cell_row Tryd.results5 _ _ (w.heap.size) 27 _ (0, 0) _ rfl G0.out Tryd.underlying27 rfl (by kernel_rfl)) rfl ⟨⟨_, _, _, rfl, ?_, ?_, ?_⟩, HB.out⟩
  · intro _
    refine ⟨_, rfl, lt_of_heap G2.out, fun i hi => ?_⟩
    have : i = 0 := by have : i < 1 := hi; omega
    subst this
    have := cell_of_row _ _ 0 _ _ _ G2.out
    exact this
  · intro _
    refine ⟨_, rfl, lt_of_heap G3.out, fun i hi => ?_⟩
    have : i = 0 := by have : i < 1 := hi; omega
    subst this
    have := cell_of_row _ _ 0 _ _ _ G3.out
    exact this
  · intro _
    refine ⟨_, rfl, lt_of_heap G4.out, fun i hi => ?_⟩
    have hi2 : i < 2 := hi
    obtain ⟨wx, hwx⟩ : ∃ wx, wx = (((((w.alloc (.cells #[.string ⟨#[111, 108, 100, 101, 114]⟩, .slice (some ⟨w.heap.size + 1 + 1, 0, none⟩) 1 1, .slice none 0 0, .slice none 0 0, .slice (some ⟨w.heap.size + 1 + 1 + 1, 0, none⟩) 1 1, .slice (some ⟨w.heap.size + 1 + 1 + 1 + 1, 0, none⟩) 2 2, .slice none 0 0] 27 (0, 0))).alloc (.cells #[.bool true, .int .i64 0, .int .i64 0, .int .i64 0] 55 (0, 0))).alloc (.cells #[.int .i64 0] 3 (0, 0))).alloc (.cells #[.int .i64 0] 3 (0, 0))).alloc (.cells #[.int .i64 1, .int .i64 0, .int .i64 0, .bool true, .int .i64 0, .int .i64 0, .int .i64 0, .bool false, .int .i64 1, .int .i64 0, .int .i64 0, .int .i64 12, .int .i64 0, .int .i64 0, .bool false, .int .i64 1, .int .i64 0, .int .i64 0, .bool true, .int .i64 0, .int .i64 0, .int .i64 0] 57 (0, 0))) := ⟨_, rfl⟩
    have G4' := G4.out
    rw [← hwx] at G4' ⊢
    have C := fun j (v : Value) (hv : (#[.int .i64 1, .int .i64 0, .int .i64 0, .bool true, .int .i64 0, .int .i64 0, .int .i64 0, .bool false, .int .i64 1, .int .i64 0, .int .i64 0, .int .i64 12, .int .i64 0, .int .i64 0, .bool false, .int .i64 1, .int .i64 0, .int .i64 0, .bool true, .int .i64 0, .int .i64 0, .int .i64 0 ] : Array Value)[j]? = some v) => (cell_of_row _ _ j _ _ _ G4').trans hv
    rcases (show i = 0 ∨ i = 1 by omega) with rfl | rfl
    · exact ⟨⟨C 0 _ rfl, C 1 _ rfl, C 2 _ rfl⟩, ⟨C 3 _ rfl, C 4 _ rfl, C 5 _ rfl, C 6 _ rfl⟩, C 7 _ rfl, C 8 _ rfl, C 9 _ rfl, C 10 _ rfl⟩
    · exact ⟨⟨C 11 _ rfl, C 12 _ rfl, C 13 _ rfl⟩, ⟨C 14 _ rfl, C 15 _ rfl, C 16 _ rfl, C 17 _ rfl⟩, C 18 _ rfl, C 19 _ rfl, C 20 _ rfl, C 21 _ rfl⟩
end Go.Proofs.YtijeninfmjhbnaaDoor
end
/- tourlaw3.MigrateBack: the law's own walk. -/
section
namespace Go.Proofs.YtijeninfmjhbnaaDoor
open Go.ChangeShapes Go.WideShapes Go.ChangeAt Go.RowKit Go.Nm Go.Mem
set_option linter.unusedVariables false
theorem drop_E : afterE twoK [dropM] = 0 := by kernel_rfl
theorem drop_B : backB twoK [dropM] = false := by kernel_rfl
theorem z_cells {w : World} {B n : Nat} {v : Value} {L : List MoveV} (h : w.ownsRow B 45 10 v n (zcells L)) (hn : L.length = n) : ∃ a c, v = .slice a n c ∧ CellsAt w a (zcells L) := by
  subst hn
  obtain ⟨_, ⟨hv, h0⟩ | ⟨g, cap, cur, hv, hb, hg, hc1, hc2, hc3, hc4⟩⟩ := h
  · exact ⟨none, 0, by rw [hv, h0], fun h => by rw [zcells_len, h0] at h; omega⟩
  · refine ⟨some ⟨g, 0, none⟩, cap, hv, fun _ => ⟨_, rfl, lt_of_heap hg, fun j u hu => ?_⟩⟩
    have hj : j < L.length * 10 := by have := (List.getElem?_eq_some_iff.1 hu).1; rwa [zcells_len] at this
    rw [add_zero_block, cell_of_row _ _ _ _ _ _ hg]
    rw [← hc4, List.getElem?_take, if_pos (by omega)] at hu
    simpa using hu
/-- a round of the law -/
def CurW (ks : List KindV) (l : List MoveV) (lo i : Nat) (w : World) (v v11 : Value) : Prop := ∃ (cur : List KindV) (n : Nat) (a : Option Addr) (c : Nat) (acc : List MoveV), v = .slice a n c ∧ cur.length = n ∧ n ≤ c ∧ c ≤ 9223372036854775807 ∧ SlAt 2 KindAt w a cur ∧ kindsE cur = 0 ∧ movesE cur (l.drop i) = 0 ∧ acc.length = i ∧ acc ++ backL cur (l.drop i) = backL ks l ∧ backB cur (l.drop i) = backB ks l ∧ w.ownsRow lo 45 10 v11 i (zcells acc.reverse)
/-- what Back has given -/
def BackR (ks : List KindV) (l : List MoveV) (lo m : Nat) (w : World) (vx : Value) (eb : Int) : Prop := (eb = 4 ∧ vx = .slice none 0 0 ∧ backB ks l = false) ∨ (eb = 0 ∧ backB ks l = true ∧ w.ownsRow lo 45 10 vx m (zcells (backL ks l).reverse))
set_option maxHeartbeats 8000000 in
set_option maxRecDepth 100000 in
theorem walk_MigrateBack (ks : List KindV) (ka : Option Addr) (n kc : Nat) (hn : ks.length = n) (h1 : n ≤ 17592186044000) (hkc : n ≤ kc) (hkm : kc ≤ 9223372036854775807) (l : List MoveV) (la : Option Addr) (m lc : Nat) (hm : l.length = m) (hwb : ∀ y ∈ l, y.whole.fields.length ≤ 4398046510976) (W : World) (hz : SlAt 2 KindAt W ka ks) (hl : SlAt 10 MvAt W la l) :
    Calls Tryd.prog 4 #[.slice ka n kc, .slice la m lc] W fun e w' => e = .returned (.bool true) ∧ Below W.heap.size W w' := by
  have CT := Lib.hid (fun w => two_kinds w)
  have CD := Lib.hid (fun w => drop_w w)
  have C0 := Lib.hid (fun (w : World) (a b : Addr) (h2 : SlAt 2 KindAt w (some a) twoK) (hd : SlAt 10 MvAt w (some b) [dropM]) => mig_Back twoK (some a) 2 2 rfl (by decide) (by decide) (by decide) [dropM] (some b) 1 1 rfl (by intro y hy; have := List.mem_singleton.1 hy; subst this; decide) w h2 hd)
  have CB := Lib.hid (fun (w : World) (h2 : SlAt 2 KindAt w ka ks) (hd : SlAt 10 MvAt w la l) => mig_Back ks ka n kc hn h1 hkc hkm l la m lc hm hwb w h2 hd)
  have CA := Lib.hid (fun (w : World) (h2 : SlAt 2 KindAt w ka ks) (hd : SlAt 10 MvAt w la l) => ref_After ks ka n kc hn h1 hkc hkm l la m lc hm hwb w h2 hd)
  have HN := Lib.hid hn
  have HKC := Lib.hid (And.intro hkc hkm)
  have HM := Lib.hid hm
  have HZ := Lib.hid hz
  have HL := Lib.hid hl
  have HWB := Lib.hid hwb
  clear hn hm hz hl hwb hkc hkm h1
  go_enter Tryd.func4, Tryd.ntmps4
  go_wp2_with fail
  refine (CT.out _).mono ?_
  rintro e w1 ⟨⟨a2, rfl, h2⟩, hb1⟩
  have HT := Lib.hid h2
  have HB1 := Lib.hid hb1
  clear h2 hb1 CT
  go_wp2_with fail
  refine (CD.out _).mono ?_
  rintro e w2 ⟨⟨a3, rfl, h3⟩, hb2⟩
  have HT2 := Lib.hid (HT.out.below KindAt.abides hb2)
  have HD := Lib.hid h3
  have HB2 := Lib.hid (bt HB1.out hb2)
  clear h3 hb2 CD HT HB1
  go_wp2_with fail
  refine (C0.out _ _ _ HT2.out HD.out).mono ?_
  rintro e w3 ⟨hpost, hb3⟩
  have HB3 := Lib.hid (bt HB2.out hb3)
  clear hb3 C0 HT2 HD HB2
  rcases hpost with ⟨h, _⟩ | ⟨_, _, rfl⟩ | ⟨_, h, _⟩
  · exact absurd drop_E h
  · go_wp2_with fail
    refine (CB.out _ (HZ.out.below KindAt.abides HB3.out) (HL.out.below MvAt.abides HB3.out)).mono ?_
    rintro e w4 ⟨hpost, hb4⟩
    have HB4 := Lib.hid (bt HB3.out hb4)
    have hle4 : W.heap.size ≤ w3.heap.size := HB3.out.size
    clear hb4 CB HB3
    have key : (afterE ks l ≠ 0 ∧ e = .returned (.tuple #[.slice none 0 0, .int .i64 (afterE ks l)])) ∨ (afterE ks l = 0 ∧ ∃ vx eb, e = .returned (.tuple #[vx, .int .i64 eb]) ∧ BackR ks l W.heap.size m w4 vx eb) := by
      rcases hpost with ⟨h, h0⟩ | ⟨h, h1, h0⟩ | ⟨h, h1, v, h0, h2⟩
      · exact Or.inl ⟨h, h0⟩
      · exact Or.inr ⟨h, _, _, h0, Or.inl ⟨rfl, rfl, h1⟩⟩
      · exact Or.inr ⟨h, _, _, h0, Or.inr ⟨rfl, h1, own_lower (by rw [HM.out] at h2; exact h2) hle4⟩⟩
    clear hpost hle4
    rcases key with ⟨hE, rfl⟩ | ⟨hE, vx, eb, rfl, hbr⟩
    · obtain ⟨E, hEe⟩ : ∃ e, e = afterE ks l := ⟨_, rfl⟩
      have HEE := Lib.hid hEe
      rw [← hEe] at hE ⊢
      have t1 : (E != 0) = true := by rw [bne_iff_ne]; exact hE
      have HNE := Lib.hid hE
      clear hE hEe
      go_wp2_with fail
      refine (CA.out _ (HZ.out.below KindAt.abides HB4.out) (HL.out.below MvAt.abides HB4.out)).mono ?_
      rintro e w5 ⟨hpost, hb5⟩
      have HB5 := Lib.hid (bt HB4.out hb5)
      clear hb5 CA HB4
      rcases hpost with ⟨_, rfl⟩ | ⟨h, _⟩
      · rw [← HEE.out]
        go_wp2_with fail
        go_ret
        exact ⟨rfl, HB5.out⟩
      · exact absurd h (by rw [← HEE.out]; exact HNE.out)
    · have HE := Lib.hid hE
      have HBR := Lib.hid hbr
      clear hE hbr
      go_wp2_with fail
      refine (CA.out _ (HZ.out.below KindAt.abides HB4.out) (HL.out.below MvAt.abides HB4.out)).mono ?_
      rintro e w5 ⟨hpost, hb5⟩
      have HB5 := Lib.hid (bt HB4.out hb5)
      have HBR5 := Lib.hid (show BackR ks l W.heap.size m w5 vx eb from HBR.out.imp id fun h => ⟨h.1, h.2.1, own_below h.2.2 hb5⟩)
      clear hb5 CA HB4 HBR
      rcases hpost with ⟨h, _⟩ | ⟨_, a0, c0, rfl, _, _, _⟩
      · exact absurd HE.out h
      · obtain ⟨nk, hnk⟩ : ∃ n, n = (movesK ks l).length := ⟨_, rfl⟩
        rw [← hnk]
        have he := HE.out
        have hk0 : kindsE ks = 0 := by
          unfold afterE at he
          by_cases h : kindsE ks = 0
          · exact h
          · rw [if_pos h] at he; exact absurd he h
        have hm100 : m ≤ 100 := by
          unfold afterE at he
          rw [if_neg (by rw [hk0]; simp)] at he
          by_cases h : 100 < l.length
          · rw [if_pos h] at he; exact absurd he (by decide)
          · rw [HM.out] at h; omega
        have hme : movesE ks l = 0 := by
          unfold afterE at he
          rw [if_neg (by rw [hk0]; simp), if_neg (by rw [HM.out]; omega)] at he
          exact he
        have HM1 := Lib.hid hm100
        have HCUR := Lib.hid (show CurW ks l W.heap.size 0 w5 (.slice ka n kc) (.slice none 0 0) from ⟨ks, n, ka, kc, [], rfl, HN.out, HKC.out.1, HKC.out.2, HZ.out.below KindAt.abides HB5.out, hk0, hme, rfl, rfl, rfl, World.ownsRow_nil _ _ _ _⟩)
        clear hnk he hk0 hm100 hme
        go_wp2_with fail
        go_loopg [0, 11, 13, 14, 15, 48] m (fun gk v0 v11 _ _ _ vi wx => ∃ (i : Nat) (V : Value), V = v11 ∧ i ≤ m ∧ gk = m - i ∧ vi = .int .i64 i ∧ Hid (CurW ks l W.heap.size i wx v0 v11) ∧ Hid (BackR ks l W.heap.size m wx vx eb) ∧ Hid (Below W.heap.size W wx))
        case atStart => exact ⟨0, _, rfl, Nat.zero_le _, rfl, rfl, HCUR, HBR5, HB5⟩
        case round =>
          clear HCUR HB5 HBR5
          obtain ⟨i, V11, hV11, hi, g2, rfl, HCUR, HBR, HB⟩ := hrel
          subst hV11
          have G2 := Lib.hid g2
          clear g2
          obtain ⟨cur, nc, ca, cc, acc, hv0, hcl, hcc, hcm, hcs, hck, hce, hal, hcL, hcB, hrow⟩ := HCUR.out
          subst hv0
          by_cases hlt : i < m
          · have hil : i < l.length := by rw [HM.out]; exact hlt
            obtain ⟨x, rfl, _, _⟩ := HL.out (by omega)
            obtain ⟨xb, xo, rfl, fa, fc, hcl0, hfine⟩ := mv_cells HL.out i hil
            have hcl2 := hcl0.below HB.out
            clear hcl0
            obtain ⟨y, hy⟩ : ∃ y, y = l[i] := ⟨_, rfl⟩
            rw [← hy] at hcl2 hfine
            have hwy : y.whole.fields.length ≤ 4398046510976 := HWB.out y (by rw [hy]; exact List.getElem_mem _)
            have hks := kinds_small hck
            rw [List.drop_eq_getElem_cons hil, ← hy] at hce hcL hcB
            unfold movesE at hce
            have hoe : oneE cur y = 0 := by
              by_cases h : oneE cur y = 0
              · exact h
              · rw [if_pos h] at hce; exact absurd hce h
            rw [if_neg (by rw [hoe]; simp)] at hce
            replace hcL : acc ++ (invV cur y :: backL (oneK cur y) (l.drop (i + 1))) = backL ks l := hcL
            replace hcB : (invB cur y && backB (oneK cur y) (l.drop (i + 1))) = backB ks l := hcB
            have hba := (Below.refl wr.heap.size wr).alloc (Nat.le_refl _) (.cells #[.int .i64 y.do_, .string y.kind, .string y.field, .string y.name, .int .i64 y.value, .string y.new.name, .int .i64 y.new.bits, .int .i64 y.new.low, .string y.whole.name, .slice fa y.whole.fields.length fc] 45)
            have h10 := heap_alloc_new wr (.cells #[.int .i64 y.do_, .string y.kind, .string y.field, .string y.name, .int .i64 y.value, .string y.new.name, .int .i64 y.new.bits, .int .i64 y.new.low, .string y.whole.name, .slice fa y.whole.fields.length fc] 45)
            have cI := ref_Undone cur ca nc cc hcl (by rw [← hcl]; omega) (fun k hk => by have := hks.2 k hk; omega) y fa fc _ (hcs.below KindAt.abides hba) hck hoe
            have c1 := fun w (hz : SlAt 2 KindAt w ca cur) hf => ref_after cur ca nc cc hcl (by rw [← hcl]; omega) (fun k hk => by have := hks.2 k hk; omega) y fa fc w hz hf
            have HBA := Lib.hid hba
            have HCS := Lib.hid (hcs.below KindAt.abides hba)
            have HFI := Lib.hid hfine
            have HRW := Lib.hid (own_below hrow hba)
            obtain ⟨z, hz⟩ : ∃ z, z = invV cur y := ⟨_, rfl⟩
            obtain ⟨zb, hzb⟩ : ∃ z, z = invB cur y := ⟨_, rfl⟩
            unfold InvPost at cI
            rw [← hz, ← hzb] at cI
            rw [← hz] at hcL
            rw [← hzb] at hcB
            obtain ⟨yd, e0⟩ : ∃ x, x = y.do_ := ⟨_, rfl⟩
            obtain ⟨yk, e1⟩ : ∃ x, x = y.kind := ⟨_, rfl⟩
            obtain ⟨yf, e2⟩ : ∃ x, x = y.field := ⟨_, rfl⟩
            obtain ⟨yn, e3⟩ : ∃ x, x = y.name := ⟨_, rfl⟩
            obtain ⟨yv, e4⟩ : ∃ x, x = y.value := ⟨_, rfl⟩
            obtain ⟨yq, e5⟩ : ∃ x, x = y.new.name := ⟨_, rfl⟩
            obtain ⟨yb, e6⟩ : ∃ x, x = y.new.bits := ⟨_, rfl⟩
            obtain ⟨yl, e7⟩ : ∃ x, x = y.new.low := ⟨_, rfl⟩
            obtain ⟨yw, e8⟩ : ∃ x, x = y.whole.name := ⟨_, rfl⟩
            obtain ⟨yz, e9⟩ : ∃ x, x = y.whole.fields.length := ⟨_, rfl⟩
            unfold mvL at hcl2
            rw [← e0, ← e1, ← e2, ← e3, ← e4, ← e5, ← e6, ← e7, ← e8, ← e9] at c1 cI hcl2 HBA h10
            rw [← e0, ← e1, ← e2, ← e3, ← e4, ← e5, ← e6, ← e7, ← e8, ← e9] at HCS HRW
            have q0 := hcl2 0 _ rfl
            have q1 := hcl2 1 _ rfl
            have q2 := hcl2 2 _ rfl
            have q3 := hcl2 3 _ rfl
            have q4 := hcl2 4 _ rfl
            have q5 := hcl2 5 _ rfl
            have q6 := hcl2 6 _ rfl
            have q7 := hcl2 7 _ rfl
            have q8 := hcl2 8 _ rfl
            have q9 := hcl2 9 _ rfl
            rw [Nat.add_zero] at q0
            have H10 := Lib.hid h10
            have C1 := Lib.hid c1
            have CI := Lib.hid cI
            have HCE := Lib.hid hce
            have HOE := Lib.hid hoe
            have HCL := Lib.hid hcL
            have HCB := Lib.hid hcB
            have HAL := Lib.hid hal
            have HLT := Lib.hid (show ∃ k, i + 1 + k = m from ⟨m - (i + 1), by omega⟩)
            have w9 : IntKind.i64.wrap ((i : Int) + 1) = ((i + 1 : Nat) : Int) := by have := HM1.out; rw [IntKind.wrap_i64]; omega
            clear c1 cI hcl2 hfine hy hwy hks hba hce hcL hcB hcs hck hcl hcc hcm e0 e1 e2 e3 e4 e5 e6 e7 e8 e9 hil HCUR h10 hrow hal hoe hz hzb
            go_wp2_with fail
            refine CI.out.mono ?_
            rintro e w6 ⟨rfl, hb6⟩
            have HBw := Lib.hid (bt HBA.out hb6)
            have H10b := Lib.hid (heap_below H10.out hb6)
            have HCS3 := Lib.hid (HCS.out.below KindAt.abides hb6)
            have HRW3 := Lib.hid (own_below HRW.out hb6)
            clear hb6 CI q0 q1 q2 q3 q4 q5 q6 q7 q8 q9 HBA H10 HCS HRW
            obtain ⟨zd, f0⟩ : ∃ x, x = z.do_ := ⟨_, rfl⟩
            obtain ⟨zk, f1⟩ : ∃ x, x = z.kind := ⟨_, rfl⟩
            obtain ⟨zf, f2⟩ : ∃ x, x = z.field := ⟨_, rfl⟩
            obtain ⟨zn, f3⟩ : ∃ x, x = z.name := ⟨_, rfl⟩
            obtain ⟨zbb, f4⟩ : ∃ x, x = z.new.bits := ⟨_, rfl⟩
            obtain ⟨zl, f5⟩ : ∃ x, x = z.new.low := ⟨_, rfl⟩
            rw [← f0, ← f1, ← f2, ← f3, ← f4, ← f5]
            have HZC := Lib.hid (show zcells [z] = [.int .i64 zd, .string zk, .string zf, .string zn, .int .i64 0, .string (⟨#[]⟩ : ByteArray), .int .i64 zbb, .int .i64 zl, .string (⟨#[]⟩ : ByteArray), .slice none 0 0] by rw [f0, f1, f2, f3, f4, f5]; rfl)
            clear f0 f1 f2 f3 f4 f5
            have hbx := (Below.refl w6.heap.size w6).alloc (Nat.le_refl _) (.cells #[.int .i64 zd, .string zk, .string zf, .string zn, .int .i64 0, .string (⟨#[]⟩ : ByteArray), .int .i64 zbb, .int .i64 zl, .string (⟨#[]⟩ : ByteArray), .slice none 0 0] 45)
            have HB7 := Lib.hid (bt HBw.out hbx)
            cases zb with
            | false =>
              have hbf : backB ks l = false := by rw [← HCB.out]; rfl
              rcases HBR.out with ⟨rfl, rfl, _⟩ | ⟨_, h, _⟩
              · have HB8 := Lib.hid (bt HB.out HB7.out)
                clear hbx hbf HBR
                go_wp2_with fail
                go_ret
                exact ⟨rfl, HB8.out⟩
              · rw [hbf] at h; cases h
            | true =>
              obtain ⟨w7, hw7⟩ : ∃ w, w = w6.alloc (.cells #[.int .i64 zd, .string zk, .string zf, .string zn, .int .i64 0, .string (⟨#[]⟩ : ByteArray), .int .i64 zbb, .int .i64 zl, .string (⟨#[]⟩ : ByteArray), .slice none 0 0] 45) := ⟨_, rfl⟩
              rw [← hw7] at hbx HB7
              have hs7 : w7.heap.size = w6.heap.size + 1 := by rw [hw7, World.size_alloc]
              have hlit : (w7.alloc (.cells #[.int .i64 zd, .string zk, .string zf, .string zn, .int .i64 0, .string (⟨#[]⟩ : ByteArray), .int .i64 zbb, .int .i64 zl, .string (⟨#[]⟩ : ByteArray), .slice none 0 0] 45)).ownsRow W.heap.size 45 10 (.slice (some ⟨w6.heap.size + 1, 0, none⟩) 1 1) 1 (zcells [z]) := by
                have h := World.ownsRow_lit (base := W.heap.size) (e := 45) (size := 10) w7 #[.int .i64 zd, .string zk, .string zf, .string zn, .int .i64 0, .string (⟨#[]⟩ : ByteArray), .int .i64 zbb, .int .i64 zl, .string (⟨#[]⟩ : ByteArray), .slice none 0 0] 1 (Nat.le_trans HB.out.size HB7.out.size) (by decide) rfl
                rw [HZC.out, ← hs7]; exact h
              have hbl := hbx.alloc (Nat.le_trans (Nat.le_succ _) (Nat.le_of_eq hs7.symm)) (.cells #[.int .i64 zd, .string zk, .string zf, .string zn, .int .i64 0, .string (⟨#[]⟩ : ByteArray), .int .i64 zbb, .int .i64 zl, .string (⟨#[]⟩ : ByteArray), .slice none 0 0] 45)
              obtain ⟨w8, hw8⟩ : ∃ w, w = w7.alloc (.cells #[.int .i64 zd, .string zk, .string zf, .string zn, .int .i64 0, .string (⟨#[]⟩ : ByteArray), .int .i64 zbb, .int .i64 zl, .string (⟨#[]⟩ : ByteArray), .slice none 0 0] 45) := ⟨_, rfl⟩
              rw [← hw8] at hlit hbl
              have hrw8 := own_below HRW3.out hbl
              obtain ⟨aw, cw, hvw, hcw⟩ := z_cells hrw8 (by rw [List.length_reverse, HAL.out])
              subst hvw
              have HW7 := Lib.hid hw7
              have HW8 := Lib.hid hw8
              have HBL := Lib.hid hbl
              have HS7 := Lib.hid hs7
              have hs8 : W.heap.size ≤ w8.heap.size := Nat.le_trans HB.out.size (Nat.le_trans HBw.out.size hbl.size)
              have hlz : (zcells acc.reverse).length = i * 10 := by rw [zcells_len, List.length_reverse, HAL.out]
              have hb100 : 1 + i ≤ maxLen ∧ (1 + i) * 136 ≤ 140737488355328 := by have := HM1.out; unfold maxLen; omega
              have hone := zcells_one acc.reverse
              clear hw7 hw8 hbx hbl hs7 hrw8 HRW3
              go_wp2_with (rw [← HW7.out, ← HW8.out]; at_builtin; (refine wpList_append_cells rfl _ _ 33 rfl W.heap.size 45 (.agg #[.int .i64 0, .string ByteArray.empty, .string ByteArray.empty, .string ByteArray.empty, .int .i64 0, .string ByteArray.empty, .int .i64 0, .int .i64 0, .string ByteArray.empty, .slice none 0 0]) 10 136 Tryd.underlying33 inf_move rfl (by decide) (.slice (some ⟨w6.heap.size + 1, 0, none⟩) 1 1) 1 (zcells [z]) rfl hlit aw i cw (zcells acc.reverse) rfl hlz hcw hone hb100.1 hb100.2 hs8 ?_))
              intro v' w9 hown9 hg9 hor9
              have hb69 : Below w6.heap.size w6 w9 := HBL.out.grown hg9 HBL.out.size (fun r hr => by
                have h : w6.heap.size + 1 = r := by simpa [Value.ownBlock] using hr
                omega)
              have h10d := heap_below H10b.out hb69
              have hcs9 := HCS3.out.below KindAt.abides hb69
              have HBw9 := Lib.hid (bt HBw.out hb69)
              have HB9 := Lib.hid (bt HB.out HBw9.out)
              have HO9 := Lib.hid (show w9.ownsRow W.heap.size 45 10 v' (i + 1) (zcells (acc ++ [z]).reverse) by
                rw [List.reverse_append, zcells_append, Nat.add_comm i 1]; exact hown9)
              have c1 := C1.out w9 hcs9 (HFI.out.below HB9.out)
              have r0 := cell_of_row _ _ 0 _ _ _ h10d
              have r1 := cell_of_row _ _ 1 _ _ _ h10d
              have r2 := cell_of_row _ _ 2 _ _ _ h10d
              have r3 := cell_of_row _ _ 3 _ _ _ h10d
              have r4 := cell_of_row _ _ 4 _ _ _ h10d
              have r5 := cell_of_row _ _ 5 _ _ _ h10d
              have r6 := cell_of_row _ _ 6 _ _ _ h10d
              have r7 := cell_of_row _ _ 7 _ _ _ h10d
              have r8 := cell_of_row _ _ 8 _ _ _ h10d
              have r9 := cell_of_row _ _ 9 _ _ _ h10d
              have C5 := Lib.hid c1
              clear c1 C1 h10d hcs9 hb69 hown9 hg9 hor9 hlit hcw hlz hone hb100 hs8 HBL HCS3 H10b HBw HB7
              go_wp2_with fail
              refine C5.out.mono ?_
              rintro e w10 ⟨hpost, hb10⟩
              have HB10 := Lib.hid (bt HB9.out hb10)
              have HO10 := Lib.hid (own_below HO9.out hb10)
              have HBR10 := Lib.hid (show BackR ks l W.heap.size m w10 vx eb from HBR.out.imp id fun h => ⟨h.1, h.2.1, own_below h.2.2 (bt HBw9.out hb10)⟩)
              clear hb10 C5 r0 r1 r2 r3 r4 r5 r6 r7 r8 r9 HO9 HB9 HBR HBw9
              rcases hpost with ⟨he, _⟩ | ⟨_, a4, c4, rfl, h4a, h4b, hs4⟩
              · exact absurd HOE.out he
              · obtain ⟨n4, hn4⟩ : ∃ n4, n4 = (oneK cur y).length := ⟨_, rfl⟩
                rw [← hn4] at h4a ⊢
                have HC2 := Lib.hid (show CurW ks l W.heap.size (i + 1) w10 (.slice a4 n4 c4) v' from ⟨oneK cur y, n4, a4, c4, acc ++ [z], rfl, hn4.symm, h4a, h4b, hs4, (oneE_kinds HOE.out).2, HCE.out, by rw [List.length_append, HAL.out]; rfl, by rw [List.append_assoc]; exact HCL.out, by rw [← HCB.out]; rfl, HO10.out⟩)
                clear h4a h4b hs4 hn4 HCE HCL HCB HAL HOE HO10
                go_wp2_with fail
                go_roundg (m - (i + 1))
                case measure => rw [G2.out]; obtain ⟨k, hk⟩ := HLT.out; omega
                case rel => obtain ⟨k, hk⟩ := HLT.out; exact ⟨i + 1, _, rfl, by omega, rfl, (by first | rfl | go_num | simp), HC2, HBR10, HB10⟩
          · obtain rfl : i = m := by omega
            rw [List.drop_eq_nil_of_le (by rw [HM.out]; exact Nat.le_refl _)] at hce hcL hcB
            have hL : acc = backL ks l := by rw [← hcL]; exact (List.append_nil _).symm
            have hBt : backB ks l = true := hcB.symm
            rcases HBR.out with ⟨_, _, h⟩ | ⟨rfl, _, hx⟩
            · rw [hBt] at h; cases h
            · obtain ⟨ax, cx, hvx, _, _, hsx⟩ := z_of_own hx (by rw [List.length_reverse, ← hL, hal])
              obtain ⟨aw, cw, hvw, _, _, hsw⟩ := z_of_own hrow (by rw [List.length_reverse, hal])
              subst hvx hvw
              rw [hL] at hsw
              have CE := Lib.hid (eqf_moves _ ax aw i cx cw (by rw [List.length_reverse, ← hL, hal]) (by have := HM1.out; omega) wr hsx hsw)
              clear hce hcL hcB hcl hcc hcm hcs hck hL hBt hrow HCUR hx hsx hsw HBR hal
              go_wp2_with fail
              refine CE.out.mono ?_
              rintro e w6 ⟨rfl, hb6⟩
              have HB6 := Lib.hid (bt HB.out hb6)
              clear hb6 CE
              go_wp2_with fail
              go_ret
              exact ⟨rfl, HB6.out⟩
  · rw [drop_B] at h; cases h
end Go.Proofs.YtijeninfmjhbnaaDoor
end
