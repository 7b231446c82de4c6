/- Arguments of nested slices and structs, read whole, with the size of each of their rows. -/
import Derived.Test.YtenfegdhbbdinaaDoorApiKind
import Derived.Lib.SmallJoins
import Derived.SizedLaws
namespace Go.Proofs.YtenfegdhbbdinaaDoor
open Go.RowKit Go.ChangeShapes Go.WideShapes Go.Deep Go.Mem
set_option linter.unusedVariables false
theorem weightsAll_mem {H : Type} {P : Program} {e : TypeId} : ∀ {l : List (DataW H)} {d : DataW H}, d ∈ l → ∀ n ∈ d.weights P e, n ∈ DataW.weightsAll P e l
  | x :: r, d, hd, n, hn => by
    simp only [DataW.weightsAll, List.mem_append]
    rcases List.mem_cons.1 hd with rfl | h
    · exact .inl hn
    · exact .inr (weightsAll_mem h n hn)
section
variable {H : Type} {enc : TypeId × Value → H} {P : Program} {w : World} {base : Nat} {spare : Nat → Bool} {held : Bool}
theorem read_slice_w {α : Type} [Inhabited α] {t e : TypeId} {sz B : Nat} {E : World → Addr → α → Prop} {Sz : α → Prop} (ht : P.underlying t = some (.slice e)) (hs : P.cellsOf e = sz) (h0 : 0 < sz)
    (hE : ∀ (fuel : Nat) (cs : List Value) (x : DataW H × List MemPlace) (p : Addr), cs.length = sz → (∀ j, j < sz → w.cell? (p.add j) = cs[j]?) → DataW.trod enc P w base spare held fuel e cs = some x → (∀ n ∈ x.1.weights P e, n ≤ B) → ∃ y, E w p y ∧ Sz y)
    {fuel : Nat} {cs : List Value} {x : DataW H × List MemPlace} (h : DataW.trod enc P w base spare held fuel t cs = some x) (hw : ∀ n ∈ x.1.weights P t, n ≤ B) :
    ∃ (a : Option Addr) (l : List α) (cap : Nat), cs = [.slice a l.length cap] ∧ l.length ≤ cap ∧ cap ≤ maxLen ∧ SlAt sz E w a l ∧ (∀ y ∈ l, Sz y) ∧ l.length * P.bytesOf e ≤ B := by
  rcases open_slice ht h with ⟨rfl, rfl⟩ | ⟨a, n, cap, m, n2, D, Pl, rfl, _, hl, hm, hmm, rfl, hi⟩
  · exact ⟨none, [], 0, rfl, Nat.le_refl _, Nat.zero_le _, fun hh => by simp at hh, (fun y hy => by cases hy), by simp⟩
  · have hnm : n ≤ m := by rw [hmm]; split <;> omega
    have hlen : n * P.bytesOf e ≤ B := by
      refine Nat.le_trans (Nat.mul_le_mul_right _ ?_) (hw _ (by simp only [DataW.weights, ht, List.mem_cons]; exact .inl rfl))
      simp
    have key : ∀ i, i < n → ∃ y, E w (a.add (i * sz)) y ∧ Sz y := by
      intro i hin
      obtain ⟨cs', hc, htr⟩ := hi i (by omega)
      obtain ⟨_, hcl, hat⟩ := World.cells?_some hc
      rw [hs] at hcl hat
      refine hE _ cs' _ (a.add (i * sz)) hcl (fun j hj => hat j hj) htr fun k hk => hw k ?_
      simp only [DataW.weights, ht, List.mem_cons, List.mem_append]
      exact .inr (.inl (weightsAll_mem (List.mem_map.2 ⟨i, List.mem_range.2 hin, rfl⟩) k hk))
    obtain ⟨Y, hY⟩ := choose_lt key
    refine ⟨some a, (List.range n).map Y, cap, by simp, by simpa using hl, hm, fun hh => ?_, fun y hy => ?_, by simpa using hlen⟩
    · rw [List.length_map, List.length_range] at hh
      refine ⟨a, rfl, ?_, fun i hi' => ?_⟩
      · obtain ⟨cs', hc, _⟩ := hi 0 (by omega)
        obtain ⟨_, hcl, hat⟩ := World.cells?_some hc
        have h1 := hat 0 (by rw [hs]; exact h0)
        rw [List.getElem?_eq_getElem (by rw [hcl, hs]; exact h0)] at h1
        have := World.block_lt_of_cell? _ _ h1
        simpa [block_of_add] using this
      · rw [List.length_map, List.length_range] at hi'
        simpa using (hY i hi').1
    · obtain ⟨i, hi', rfl⟩ := List.mem_map.1 hy
      exact (hY i (List.mem_range.1 hi')).2
end
section
variable {H : Type} {enc : TypeId × Value → H} {w : World} {base : Nat} {spare : Nat → Bool} {held : Bool}
set_option maxRecDepth 100000 in
theorem read_fields_w {fuel : Nat} {cs : List Value} {x : DataW H × List MemPlace} {B : Nat} (h : DataW.trod enc Tryd.prog w base spare held fuel 23 cs = some x) (hw : ∀ n ∈ x.1.weights Tryd.prog 23, n ≤ B) :
    ∃ (a : Option Addr) (l : List FieldV) (cap : Nat), cs = [.slice a l.length cap] ∧ l.length ≤ cap ∧ cap ≤ maxLen ∧ SlAt 3 FieldAt w a l ∧ l.length * 32 ≤ B := by
  obtain ⟨a, l, cap, h1, h2, h3, h4, _, h5⟩ := read_slice_w (sz := 3) (E := FieldAt) (Sz := fun _ => True) Tryd.underlying23 (by kernel_rfl) (by decide) (fun fuel cs x p hl hc ht _ => by obtain ⟨y, hy, _⟩ := read_field fuel cs x p hl hc ht; exact ⟨y, hy, trivial⟩) h hw
  rw [show Tryd.prog.bytesOf 39 = 32 by kernel_rfl] at h5
  exact ⟨a, l, cap, h1, h2, h3, h4, h5⟩
theorem each2 {t : TypeId} {d0 d1 : DataW H} {t0 t1 : TypeId} {fs : Array Field} (hu : Tryd.prog.underlying t = some (.struct fs)) (hf : fs.toList.map (·.type) = [t0, t1]) {n : Nat} (hn : n ∈ d1.weights Tryd.prog t1) :
    n ∈ DataW.weights Tryd.prog t (.agg [d0, d1]) := by
  simp only [DataW.weights, hu, hf, DataW.weightsEach, List.mem_append]
  exact .inr (.inl hn)
set_option maxRecDepth 100000 in
theorem read_kind_w {B : Nat} (fuel : Nat) (cs : List Value) (x : DataW H × List MemPlace) (p : Addr) (hl : cs.length = 2) (hc : ∀ j, j < 2 → w.cell? (p.add j) = cs[j]?) (ht : DataW.trod enc Tryd.prog w base spare held fuel 25 cs = some x) (hw : ∀ n ∈ x.1.weights Tryd.prog 25, n ≤ B) :
    ∃ y, KindAt w p y ∧ y.fields.length * 32 ≤ B := by
  obtain ⟨xs, n, _, rfl, _, hxl, hf⟩ := DataW.trod_struct Tryd.underlying25 ht
  match cs, hl with
  | [v0, v1], _ =>
    have g0 : DataW.trod enc Tryd.prog w base spare held n 9 (([v0, v1].drop 0).take (Tryd.prog.cellsOf 9)) = xs[0]? := hf 0 _ rfl
    have g1 : DataW.trod enc Tryd.prog w base spare held n 23 (([v0, v1].drop 1).take (Tryd.prog.cellsOf 23)) = xs[1]? := hf 1 _ rfl
    rw [show Tryd.prog.cellsOf 9 = 1 by kernel_rfl] at g0
    rw [show Tryd.prog.cellsOf 23 = 1 by kernel_rfl] at g1
    match xs, hxl with
    | [y0, y1], _ =>
      obtain ⟨s, e0, hx0, hs⟩ := DataW.trod_string Tryd.underlying9 (show DataW.trod enc Tryd.prog w base spare held n 9 [v0] = some y0 from g0)
      obtain ⟨a, l, cap, e1, q1, q2, q3, q4⟩ := read_fields_w (B := B) (show DataW.trod enc Tryd.prog w base spare held n 23 [v1] = some y1 from g1) (fun k hk => hw k (each2 Tryd.underlying25 rfl hk))
      injection e0 with e0; injection e1 with e1
      subst e0 e1
      have c0 := hc 0 (by decide)
      have c1 := hc 1 (by decide)
      unfold maxLen at hs q2
      exact ⟨⟨s, l⟩, ⟨by simpa [Addr.add] using c0, by simp only; omega, a, cap, by simpa [Addr.add] using c1, q1, by omega, q3⟩, q4⟩
set_option maxRecDepth 100000 in
theorem read_kinds_w {fuel : Nat} {cs : List Value} {x : DataW H × List MemPlace} {B : Nat} (h : DataW.trod enc Tryd.prog w base spare held fuel 22 cs = some x) (hw : ∀ n ∈ x.1.weights Tryd.prog 22, n ≤ B) :
    ∃ (a : Option Addr) (l : List KindV) (cap : Nat), cs = [.slice a l.length cap] ∧ l.length ≤ cap ∧ cap ≤ maxLen ∧ SlAt 2 KindAt w a l ∧ (∀ y ∈ l, y.fields.length * 32 ≤ B) ∧ l.length * 40 ≤ B := by
  obtain ⟨a, l, cap, h1, h2, h3, h4, h6, h5⟩ := read_slice_w (sz := 2) (E := KindAt) (Sz := fun y : KindV => y.fields.length * 32 ≤ B) Tryd.underlying22 (by kernel_rfl) (by decide) read_kind_w h hw
  rw [show Tryd.prog.bytesOf 25 = 40 by kernel_rfl] at h5
  exact ⟨a, l, cap, h1, h2, h3, h4, h6, h5⟩
set_option maxRecDepth 100000 in
theorem open_kind_w {B : Nat} {r : Reach} {b0 : Nat} {v : Value} {d : DataW H} {p : List MemPlace} (hv : Value.okWide Tryd.prog w r b0 25 v) (h : DataW.Trod enc Tryd.prog w base spare held 25 v d p) (hw : ∀ n ∈ d.weights Tryd.prog 25, n ≤ B) :
    ∃ (y : KindV) (a : Option Addr) (cap : Nat), v = .agg #[.string y.name, .slice a y.fields.length cap] ∧ y.name.size ≤ 9223372036854775807 ∧ y.fields.length ≤ cap ∧ cap ≤ 9223372036854775807 ∧ SlAt 3 FieldAt w a y.fields ∧ y.fields.length * 32 ≤ B := by
  obtain ⟨v0, v1, y0, y1, n, rfl, rfl, _, h0, h1⟩ := Joins.open_agg2 Tryd.underlying25 (by kernel_rfl) (by kernel_rfl) hv h
  obtain ⟨s, e0, hx0, hs⟩ := DataW.trod_string Tryd.underlying9 h0
  obtain ⟨a, l, cap, e1, q1, q2, q3, q4⟩ := read_fields_w h1 (fun k hk => hw k (each2 Tryd.underlying25 rfl hk))
  injection e0 with e0; injection e1 with e1
  subst e0 e1
  unfold maxLen at hs q2
  exact ⟨⟨s, l⟩, a, cap, rfl, by simp only; omega, q1, by omega, q3, q4⟩
end
end Go.Proofs.YtenfegdhbbdinaaDoor
