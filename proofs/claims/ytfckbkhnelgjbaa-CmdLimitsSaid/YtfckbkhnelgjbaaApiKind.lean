/- Fields and kinds as they lie in memory; the errors of a kind, as the document has them. -/
import Derived.Test.YtfckbkhnelgjbaaAggB
import Derived.Test.YtfckbkhnelgjbaaFieldW
namespace Go.Proofs.Ytfckbkhnelgjbaa
open Go.RowKit Go.ChangeShapes Go.WideShapes Go.Deep Go.Mem Go.Nm
set_option linter.unusedVariables false
structure FieldV where
  name : ByteArray
  bits : Int
  low : Int
instance : Inhabited FieldV := ⟨⟨ByteArray.empty, 0, 0⟩⟩
structure KindV where
  name : ByteArray
  fields : List FieldV
instance : Inhabited KindV := ⟨⟨ByteArray.empty, []⟩⟩
def FieldAt (w : World) (p : Addr) (y : FieldV) : Prop := w.cell? p = some (.string y.name) ∧ w.cell? ⟨p.block, p.off + 1, none⟩ = some (.int .i64 y.bits) ∧ w.cell? ⟨p.block, p.off + 2, none⟩ = some (.int .i64 y.low) ∧ y.name.size ≤ 9223372036854775807
theorem FieldAt.abides : Abides FieldAt := fun w w' p y h hb => ⟨cell_abides h.1 hb, cell_abides h.2.1 hb, cell_abides h.2.2.1 hb, h.2.2.2⟩
def KindAt (w : World) (p : Addr) (y : KindV) : Prop := w.cell? p = some (.string y.name) ∧ y.name.size ≤ 9223372036854775807 ∧ ∃ a c, w.cell? ⟨p.block, p.off + 1, none⟩ = some (.slice a y.fields.length c) ∧ y.fields.length ≤ c ∧ c ≤ 9223372036854775807 ∧ SlAt 3 FieldAt w a y.fields
theorem KindAt.abides : Abides KindAt := fun w w' p y h hb => by
  obtain ⟨h1, h2, a, c, h3, h4, h5, h6⟩ := h
  exact ⟨cell_abides h1 hb, h2, a, c, cell_abides h3 hb, h4, h5, h6.below FieldAt.abides hb⟩
def costField (y : FieldV) : Nat := y.name.size + 1
def costKind (y : KindV) : Nat := y.name.size + (y.fields.map costField).sum + 1
section
variable {H : Type} {enc : TypeId × Value → H} {w : World} {base : Nat} {spare : Nat → Bool} {held : Bool}
theorem str_bulk (s : ByteArray) : Rows.uptoBulk (DataW.lit (H := H) (.string s.data.toList)) = s.size + 1 := by simp only [Rows.uptoBulk]; rfl
set_option maxRecDepth 100000 in
theorem read_field (fuel : Nat) (cs : List Value) (x : DataW H × List MemPlace) (p : Addr) (hl : cs.length = 3) (hc : ∀ j, j < 3 → w.cell? (p.add j) = cs[j]?) (ht : DataW.trod enc Try.prog w base spare held fuel 99 cs = some x) : ∃ y, FieldAt w p y ∧ costField y ≤ Rows.uptoBulk x.1 := by
  obtain ⟨xs, n, _, rfl, _, hxl, hf⟩ := DataW.trod_struct Try.underlying99 ht
  match cs, hl with
  | [v0, v1, v2], _ =>
    have g0 : DataW.trod enc Try.prog w base spare held n 9 (([v0, v1, v2].drop 0).take (Try.prog.cellsOf 9)) = xs[0]? := hf 0 _ rfl
    have g1 : DataW.trod enc Try.prog w base spare held n 3 (([v0, v1, v2].drop 1).take (Try.prog.cellsOf 3)) = xs[1]? := hf 1 _ rfl
    have g2 : DataW.trod enc Try.prog w base spare held n 3 (([v0, v1, v2].drop 2).take (Try.prog.cellsOf 3)) = xs[2]? := hf 2 _ rfl
    rw [show Try.prog.cellsOf 9 = 1 by kernel_rfl] at g0
    rw [show Try.prog.cellsOf 3 = 1 by kernel_rfl] at g1 g2
    match xs, hxl with
    | [y0, y1, y2], _ =>
      obtain ⟨s, e0, hx0, hs⟩ := DataW.trod_string Try.underlying9 (show DataW.trod enc Try.prog w base spare held n 9 [v0] = some y0 from g0)
      obtain ⟨z1, e1, _, _⟩ := DataW.trod_int Try.underlying3 (show DataW.trod enc Try.prog w base spare held n 3 [v1] = some y1 from g1)
      obtain ⟨z2, e2, _, _⟩ := DataW.trod_int Try.underlying3 (show DataW.trod enc Try.prog w base spare held n 3 [v2] = some y2 from g2)
      injection e0 with e0; injection e1 with e1; injection e2 with e2
      subst e0 e1 e2
      have c0 := hc 0 (by decide)
      have c1 := hc 1 (by decide)
      have c2 := hc 2 (by decide)
      unfold maxLen at hs
      have hb : Rows.uptoBulk y0.1 + 1 ≤ Rows.uptoBulk (.agg ([y0, y1, y2].map (·.1))) := agg_bulk (xs := [y0, y1, y2]) (i := 0) (y := y0) rfl
      have he : Rows.uptoBulk y0.1 = s.size + 1 := by rw [hx0]; exact str_bulk s
      exact ⟨⟨s, z1, z2⟩, ⟨by simpa [Addr.add] using c0, by simpa [Addr.add] using c1, by simpa [Addr.add] using c2, by simp only; omega⟩, by unfold costField; simp only at hb ⊢; omega⟩
set_option maxRecDepth 100000 in
theorem read_fields {fuel : Nat} {cs : List Value} {x : DataW H × List MemPlace} (h : DataW.trod enc Try.prog w base spare held fuel 100 cs = some x) :
    ∃ (a : Option Addr) (l : List FieldV) (cap : Nat), cs = [.slice a l.length cap] ∧ l.length ≤ cap ∧ cap ≤ maxLen ∧ SlAt 3 FieldAt w a l ∧ (l.map costField).sum + 1 ≤ Rows.uptoBulk x.1 :=
  read_slice Try.underlying100 (by kernel_rfl) (by decide) read_field h
set_option maxRecDepth 100000 in
theorem read_kind (fuel : Nat) (cs : List Value) (x : DataW H × List MemPlace) (p : Addr) (hl : cs.length = 2) (hc : ∀ j, j < 2 → w.cell? (p.add j) = cs[j]?) (ht : DataW.trod enc Try.prog w base spare held fuel 102 cs = some x) : ∃ y, KindAt w p y ∧ costKind y ≤ Rows.uptoBulk x.1 := by
  obtain ⟨xs, n, _, rfl, _, hxl, hf⟩ := DataW.trod_struct Try.underlying102 ht
  match cs, hl with
  | [v0, v1], _ =>
    have g0 : DataW.trod enc Try.prog w base spare held n 9 (([v0, v1].drop 0).take (Try.prog.cellsOf 9)) = xs[0]? := hf 0 _ rfl
    have g1 : DataW.trod enc Try.prog w base spare held n 100 (([v0, v1].drop 1).take (Try.prog.cellsOf 100)) = xs[1]? := hf 1 _ rfl
    rw [show Try.prog.cellsOf 9 = 1 by kernel_rfl] at g0
    rw [show Try.prog.cellsOf 100 = 1 by kernel_rfl] at g1
    match xs, hxl with
    | [y0, y1], _ =>
      obtain ⟨s, e0, hx0, hs⟩ := DataW.trod_string Try.underlying9 (show DataW.trod enc Try.prog w base spare held n 9 [v0] = some y0 from g0)
      obtain ⟨a, l, cap, e1, q1, q2, q3, q4⟩ := read_fields (show DataW.trod enc Try.prog w base spare held n 100 [v1] = some y1 from g1)
      injection e0 with e0; injection e1 with e1
      subst e0 e1
      have c0 := hc 0 (by decide)
      have c1 := hc 1 (by decide)
      unfold maxLen at hs q2
      have hb : Rows.uptoBulk y0.1 + (Rows.uptoBulk y1.1 + 1) ≤ Rows.uptoBulk (.agg ([y0, y1].map (·.1))) := by
        simp only [List.map_cons, List.map_nil, Rows.uptoBulk, Rows.uptoBulkAll]; omega
      have he : Rows.uptoBulk y0.1 = s.size + 1 := by rw [hx0]; exact str_bulk s
      exact ⟨⟨s, l⟩, ⟨by simpa [Addr.add] using c0, by simp only; omega, a, cap, by simpa [Addr.add] using c1, q1, by omega, q3⟩, by unfold costKind; simp only at hb ⊢; omega⟩
set_option maxRecDepth 100000 in
theorem read_kinds {fuel : Nat} {cs : List Value} {x : DataW H × List MemPlace} (h : DataW.trod enc Try.prog w base spare held fuel 33 cs = some x) :
    ∃ (a : Option Addr) (l : List KindV) (cap : Nat), cs = [.slice a l.length cap] ∧ l.length ≤ cap ∧ cap ≤ maxLen ∧ SlAt 2 KindAt w a l ∧ (l.map costKind).sum + 1 ≤ Rows.uptoBulk x.1 :=
  read_slice Try.underlying33 (by kernel_rfl) (by decide) read_kind h
end
/-- is one of the first i names the one of place i? -/
def okF (f : FieldV) : Bool := fieldB f.name f.bits f.low
def dupAt (names : List ByteArray) (i : Nat) : Bool := (names.take i).any fun s => s.toList == (names.getD i ByteArray.empty).toList
/-- the error of the first k fields -/
def fldErr (l : List FieldV) : Nat → Int
  | 0 => 0
  | k + 1 => if fldErr l k ≠ 0 then fldErr l k else if okF (l.getD k default) = false then 3 else if dupAt (l.map (·.name)) k = true then 5 else 0
def kindE (k : KindV) : Int := if nameB k.name.data.toList = false then 3 else if 8 < k.fields.length then 2 else fldErr k.fields k.fields.length
def kndErr (l : List KindV) : Nat → Int
  | 0 => 0
  | k + 1 => if kndErr l k ≠ 0 then kndErr l k else if kindE (l.getD k default) ≠ 0 then kindE (l.getD k default) else if dupAt (l.map (·.name)) k = true then 5 else 0
def kindsE (l : List KindV) : Int := if 16 < l.length then 2 else kndErr l l.length
/-- an error stays -/
theorem fldErr_stays (l : List FieldV) (k m : Nat) (h : k ≤ m) (h0 : fldErr l k ≠ 0) : fldErr l m = fldErr l k := by
  induction m with
  | zero => obtain rfl : k = 0 := by omega
            rfl
  | succ m ih =>
    by_cases hk : k = m + 1
    · rw [hk]
    · have := ih (by omega)
      show (if fldErr l m ≠ 0 then _ else _) = _
      rw [if_pos (by rw [this]; exact h0), this]
theorem kndErr_stays (l : List KindV) (k m : Nat) (h : k ≤ m) (h0 : kndErr l k ≠ 0) : kndErr l m = kndErr l k := by
  induction m with
  | zero => obtain rfl : k = 0 := by omega
            rfl
  | succ m ih =>
    by_cases hk : k = m + 1
    · rw [hk]
    · have := ih (by omega)
      show (if kndErr l m ≠ 0 then _ else _) = _
      rw [if_pos (by rw [this]; exact h0), this]
end Go.Proofs.Ytfckbkhnelgjbaa
