/- The law SetsTells, for its frame. -/
import Derived.Test.YtlahmcbaiebapaaSetsTells
namespace Go.Proofs.Ytlahmcbaiebapaa
open Go.ChangeShapes Go.WideShapes Go.ChangeAt Go.RowKit Go.Mem Go.Sp
set_option linter.unusedVariables false
theorem u64_wf {z : Int} (h : (Lit.int .u64 z).wf = true) : 0 ≤ z ∧ z < 18446744073709551616 := by
  have h1 : IntKind.u64.min ≤ z ∧ z ≤ IntKind.u64.max := by simpa [Lit.wf] using h
  have : IntKind.u64.min = 0 := by decide
  have : IntKind.u64.max = 18446744073709551615 := by decide
  omega
theorem i64_wf {z : Int} (h : (Lit.int .i64 z).wf = true) : -9223372036854775808 ≤ z ∧ z ≤ 9223372036854775807 := by
  have h1 : IntKind.i64.min ≤ z ∧ z ≤ IntKind.i64.max := by simpa [Lit.wf] using h
  have : IntKind.i64.min = -9223372036854775808 := by decide
  have : IntKind.i64.max = 9223372036854775807 := by decide
  omega
theorem V_of {zs : List Int} (h : ∀ z ∈ zs, (Lit.int .u64 z).wf = true) : V (zs.map Int.toNat) = zs ∧ Words (zs.map Int.toNat) := by
  constructor
  · unfold V
    rw [List.map_map]
    conv => rhs; rw [← List.map_id zs]
    refine List.map_congr_left fun z hz => ?_
    have := u64_wf (h z hz)
    simp; omega
  · intro x hx
    obtain ⟨z, hz, rfl⟩ := List.mem_map.1 hx
    have := u64_wf (h z hz)
    omega
theorem law_SetsTells (a b l : Option Addr) (n m p ca cb cl : Nat) (za zb zl : List Int) (i : Int) (W : World) (ha : IsRow .u64 W a n ca za) (hb : IsRow .u64 W b m cb zb) (hl : IsRow .i64 W l p cl zl) (hi : (Lit.int .i64 i).wf = true)
    (ra : ca * 8 ≤ 140737488351232) (rb : cb * 8 ≤ 140737488351232) (rl : cl * 8 ≤ 140737488351232) :
    Calls Try.prog 3 #[.slice a n ca, .slice b m cb, .int .i64 i, .slice l p cl] W fun e w' => e = .returned (.bool true) ∧ Below W.heap.size W w' := by
  obtain ⟨ea, wa⟩ := V_of ha.wf
  obtain ⟨eb, wb⟩ := V_of hb.wf
  refine walk_SetsTells ((za.take n).map Int.toNat) ((zb.take m).map Int.toNat) (zl.take p) i a b l n m p ca cb cl (by rw [List.length_map]; exact ha.len) (by rw [List.length_map]; exact hb.len) hl.len (by have := ha.le; omega) (by have := hb.le; omega) (by have := hl.le; omega) wa wb (by have := i64_wf hi; omega) W ?_ ?_ (IntsAt.of_row hl)
  · unfold SetAt; rw [ea]; exact IntsAt.of_row ha
  · unfold SetAt; rw [eb]; exact IntsAt.of_row hb
end Go.Proofs.Ytlahmcbaiebapaa
