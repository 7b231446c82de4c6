/- KindSays: the law, its arguments opened. -/
import Derived.Test.YtenfegdhbbdinaaDoorKindSays
import Derived.Lib.SmallJoins
namespace Go.Proofs.YtenfegdhbbdinaaDoor
open Go.ChangeShapes Go.WideShapes Go.ChangeAt Go.RowKit Go.Nm Go.Mem
set_option linter.unusedVariables false
theorem len_le_sum {α : Type} (f : α → Nat) (h : ∀ y, 1 ≤ f y) : ∀ l : List α, l.length ≤ (l.map f).sum
  | [] => Nat.le_refl _
  | a :: r => by
    have := len_le_sum f h r
    have := h a
    simp only [List.length_cons, List.map_cons, List.sum_cons]; omega
theorem le_sum {α : Type} (f : α → Nat) (y : α) : ∀ l : List α, y ∈ l → f y ≤ (l.map f).sum
  | a :: r, hm => by
    simp only [List.map_cons, List.sum_cons]
    rcases List.mem_cons.1 hm with rfl | h
    · omega
    · have := le_sum f y r h; omega
theorem fields_le (y : KindV) : y.fields.length ≤ costKind y := by
  have := len_le_sum costField (fun y => by unfold costField; omega) y.fields
  unfold costKind; omega
section
variable {H : Type} {enc : TypeId × Value → H} {w : World} {base : Nat} {spare : Nat → Bool} {held : Bool}
set_option maxRecDepth 100000 in
theorem open_kind {r : Reach} {b0 : Nat} {v : Value} {d : DataW H} {p : List MemPlace} (hv : Value.okWide Tryd.prog w r b0 25 v) (h : DataW.Trod enc Tryd.prog w base spare held 25 v d p) :
    ∃ (y : KindV) (a : Option Addr) (cap : Nat), v = .agg #[.string y.name, .slice a y.fields.length cap] ∧ y.name.size ≤ 9223372036854775807 ∧ y.fields.length ≤ cap ∧ cap ≤ 9223372036854775807 ∧ SlAt 3 FieldAt w a y.fields ∧ costKind y ≤ Rows.uptoBulk d := by
  obtain ⟨v0, v1, y0, y1, n, rfl, hd, _, h0, h1⟩ := Joins.open_agg2 Tryd.underlying25 (by kernel_rfl) (by kernel_rfl) hv h
  obtain ⟨s, e0, hx0, hs⟩ := DataW.trod_string Tryd.underlying9 h0
  obtain ⟨a, l, cap, e1, q1, q2, q3, q4⟩ := read_fields h1
  injection e0 with e0; injection e1 with e1
  subst e0 e1
  unfold maxLen at hs q2
  have he : Rows.uptoBulk y0.1 = s.size + 1 := by rw [hx0]; exact str_bulk s
  have hb : Rows.uptoBulk y0.1 + (Rows.uptoBulk y1.1 + 1) ≤ Rows.uptoBulk d := by
    rw [hd]; simp only [Rows.uptoBulk, Rows.uptoBulkAll]; omega
  exact ⟨⟨s, l⟩, a, cap, rfl, by simp only; omega, q1, by omega, q3, by unfold costKind; simp only at hb ⊢; omega⟩
end
set_option maxRecDepth 100000 in
theorem law_KindSays {H : Type} {enc : TypeId × Value → H} (W : World) {b0 b1 : Nat} {r0 r1 : Reach} {v0 v1 : Value} {d0 d1 : DataW H} {p0 p1 : List MemPlace} {ds : List (DataW H)}
    (hv0 : Value.okWide Tryd.prog W r0 b0 22 v0) (h0 : DataW.Trod enc Tryd.prog W 0 (fun _ => true) true 22 v0 d0 p0)
    (hv1 : Value.okWide Tryd.prog W r1 b1 25 v1) (h1 : DataW.Trod enc Tryd.prog W 0 (fun _ => true) true 25 v1 d1 p1)
    (hk : Rows.uptoSmall H ds = true) (m0 : d0 ∈ ds) (m1 : d1 ∈ ds)
    {a2 : Option Addr} {n2 c2 : Nat} {z2 : List Int} (w2 : IsRow .i64 W a2 n2 c2 z2) (k2 : n2 ≤ 1048576) (s : ByteArray) (hs : s.size ≤ 140737488351232) :
    Calls Tryd.prog 3 #[v0, v1, .slice a2 n2 c2, .string s] W fun e w' => e = .returned (.bool true) ∧ Below W.heap.size W w' := by
  obtain ⟨al, len, cl, rfl⟩ := okWide_slice Tryd.underlying22 hv0
  obtain ⟨fuel, hf⟩ := h0
  obtain ⟨al', l, cl', hcs, hlc, hcm, hz, hb⟩ := read_kinds hf
  simp [Value.cells] at hcs
  obtain ⟨rfl, rfl, rfl⟩ := hcs
  obtain ⟨k, ak, ck, rfl, hkn, hkc, hkm, hzk, hbk⟩ := open_kind hv1 h1
  have e0 := Bulk.mem m0
  have e1 := Bulk.mem m1
  have e2 := of_decide_eq_true hk
  have e3 := len_le_sum costKind (fun y => by unfold costKind; omega) l
  have e4 := fields_le k
  have hlen : (z2.take n2).length = n2 := by
    rcases w2 with ⟨_, rfl, _, rfl⟩ | ⟨x, _, hl, _, hz2, _⟩
    · rfl
    · rw [List.length_take, hz2]; omega
  unfold maxLen at hcm
  simp only at hb hbk
  exact walk_KindSays l al l.length cl k ak k.fields.length ck (z2.take n2) a2 n2 c2 s rfl (by omega) hlc (by omega) (fun y hy => by have := fields_le y; have := le_sum costKind y l hy; omega) rfl (by omega) hkc hkm hkn hlen k2 (by omega) W hz hzk (IntsAt.of_row w2)
end Go.Proofs.YtenfegdhbbdinaaDoor
