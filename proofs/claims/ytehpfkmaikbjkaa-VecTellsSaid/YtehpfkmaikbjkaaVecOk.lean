/- A struct of two numbers that comes in by value. -/
import Derived.Test.YtehpfkmaikbjkaaVec
import Derived.WideShapes
namespace Go.Proofs.Ytehpfkmaikbjkaa
open Go.ChangeShapes Go.WideShapes Go.ChangeAt Go.RowKit Go.Mem

theorem okWide_i64 {P : Program} {w : World} {r : Reach} {base : Nat} {t : TypeId} {v : Value} (ht : P.underlying t = some (.int .i64)) (h : Cell.okWide P w r base t v) : ∃ a, v = .int .i64 a := by
  simp only [Cell.okWide, ht] at h
  cases v <;> simp_all [Cell.ok]
set_option maxRecDepth 100000 in
theorem ok_vec {w : World} {r : Reach} {base : Nat} {v : Value} (h : Value.okWide Try.prog w r base 36 v) : ∃ a b, v = .agg #[.int .i64 a, .int .i64 b] := by
  simp only [Value.okWide, Try.underlying36] at h
  obtain ⟨cs, rfl, hs, ts, h1, _, h3⟩ := h
  have hts : Try.prog.cellTypes Try.prog.depth 36 = some [3, 3] := by kernel_rfl
  have hc : Try.prog.cellsOf 36 = 2 := by kernel_rfl
  rw [hts] at h1
  obtain rfl := Option.some.inj h1
  rw [hc] at hs
  obtain ⟨l⟩ := cs
  match l, hs with
  | [x, y], _ =>
    obtain ⟨u, hu, hx⟩ := h3 0 x (by simp)
    simp at hu
    subst hu
    obtain ⟨u, hu, hy⟩ := h3 1 y (by simp)
    simp at hu
    subst hu
    obtain ⟨a, rfl⟩ := okWide_i64 Try.underlying3 hx
    obtain ⟨b, rfl⟩ := okWide_i64 Try.underlying3 hy
    exact ⟨a, b, rfl⟩
end Go.Proofs.Ytehpfkmaikbjkaa
