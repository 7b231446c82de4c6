/- A field as an argument. -/
import Derived.Test.YtdhaaeaacbnghaaField
import Derived.Lib.SmallJoins
namespace Go.Proofs.Ytdhaaeaacbnghaa
open Go.ChangeShapes Go.WideShapes Go.ChangeAt Go.RowKit Go.Mem
set_option linter.unusedVariables false

set_option maxRecDepth 100000 in
theorem field_open {H : Type} {enc : TypeId × Value → H} {w : World} {base b0 : Nat} {spare : Nat → Bool} {held : Bool} {v : Value} {d : DataW H} {p : List MemPlace} (hv : Value.okWide Try.prog w .any b0 92 v) (h : DataW.Trod enc Try.prog w base spare held 92 v d p) :
    ∃ (s : ByteArray) (b l : Int), v = .agg #[.string s, .int .i64 b, .int .i64 l] := by
  obtain ⟨v0, v1, v2, y0, y1, y2, n, rfl, _, _, h0, h1, h2⟩ := Joins.open_agg3 Try.underlying92 (by kernel_rfl) (by kernel_rfl) hv h
  obtain ⟨s, hs, _⟩ := DataW.trod_string Try.underlying9 h0
  obtain ⟨b, hb, _⟩ := DataW.trod_int Try.underlying3 h1
  obtain ⟨l, hl, _⟩ := DataW.trod_int Try.underlying3 h2
  injection hs with hs
  injection hb with hb
  injection hl with hl
  exact ⟨s, b, l, by rw [hs, hb, hl]⟩
end Go.Proofs.Ytdhaaeaacbnghaa
