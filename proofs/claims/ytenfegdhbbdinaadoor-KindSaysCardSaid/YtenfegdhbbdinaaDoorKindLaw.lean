/- KindSays: the law, its arguments opened. -/
import Derived.Test.YtenfegdhbbdinaaDoorKindSays
import Derived.Test.YtenfegdhbbdinaaDoorRdW
namespace Go.Proofs.YtenfegdhbbdinaaDoor
open Go.ChangeShapes Go.WideShapes Go.ChangeAt Go.RowKit Go.Nm Go.Mem
set_option linter.unusedVariables false
set_option maxRecDepth 100000 in
theorem law_KindSays {H : Type} {enc : TypeId × Value → H} (W : World) {b0 b1 : Nat} {r0 r1 : Reach} {v0 v1 : Value} {d0 d1 : DataW H} {p0 p1 : List MemPlace}
    (hv0 : Value.okWide Tryd.prog W r0 b0 22 v0) (h0 : DataW.Trod enc Tryd.prog W 0 (fun _ => true) true 22 v0 d0 p0)
    (hv1 : Value.okWide Tryd.prog W r1 b1 25 v1) (h1 : DataW.Trod enc Tryd.prog W 0 (fun _ => true) true 25 v1 d1 p1)
    (q0 : ∀ n ∈ d0.weights Tryd.prog 22, n ≤ reachBytes) (q1 : ∀ n ∈ d1.weights Tryd.prog 25, n ≤ reachBytes)
    {a2 : Option Addr} {n2 c2 : Nat} {z2 : List Int} (w2 : IsRow .i64 W a2 n2 c2 z2) (k2 : c2 * 8 ≤ 140737488351232) (s : ByteArray) (hs : s.size ≤ 140737488351232) :
    Calls Tryd.prog 3 #[v0, v1, .slice a2 n2 c2, .string s] W fun e w' => e = .returned (.bool true) ∧ Below W.heap.size W w' := by
  obtain ⟨al, len, cl, rfl⟩ := okWide_slice Tryd.underlying22 hv0
  obtain ⟨fuel, hf⟩ := h0
  obtain ⟨al', l, cl', hcs, hlc, hcm, hz, hb, hb2⟩ := read_kinds_w hf q0
  simp [Value.cells] at hcs
  obtain ⟨rfl, rfl, rfl⟩ := hcs
  obtain ⟨k, ak, ck, rfl, hkn, hkc, hkm, hzk, hbk⟩ := open_kind_w hv1 h1 q1
  have hlen : (z2.take n2).length = n2 ∧ n2 ≤ c2 := by
    rcases w2 with ⟨_, rfl, _, rfl⟩ | ⟨x, _, hl, _, hz2, _⟩
    · exact ⟨rfl, by omega⟩
    · rw [List.length_take, hz2]; omega
  obtain ⟨hlen, hl2⟩ := hlen
  unfold maxLen at hcm
  unfold reachBytes at hb hb2 hbk
  exact walk_KindSays l al l.length cl k ak k.fields.length ck (z2.take n2) a2 n2 c2 s rfl (by omega) hlc (by omega) (fun y hy => by have := hb y hy; omega) rfl (by omega) hkc hkm hkn hlen (by omega) (by omega) W hz hzk (IntsAt.of_row w2)
end Go.Proofs.YtenfegdhbbdinaaDoor
