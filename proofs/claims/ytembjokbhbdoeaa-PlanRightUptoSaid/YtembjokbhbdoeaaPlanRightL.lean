/- The law PlanRight: its arguments, read. -/
import Derived.Test.YtembjokbhbdoeaaPlanRight
namespace Go.Proofs.Ytembjokbhbdoeaa
open Go.ChangeShapes Go.WideShapes Go.ChangeAt Go.RowKit Go.Deep Go.Mem
set_option linter.unusedVariables false
section
variable {H : Type} {enc : TypeId × Value → H} {w : World} {base : Nat} {spare : Nat → Bool} {held : Bool}
/-- a slice of ints, as a list and a bulk; each within its type -/
theorem read_intsW {fuel : Nat} {cs : List Value} {x : DataW H × List MemPlace} (h : DataW.trod enc Try.prog w base spare held fuel 26 cs = some x) :
    ∃ (a : Option Addr) (l : List Int) (cap : Nat), cs = [.slice a l.length cap] ∧ IntsAt .i64 w a l ∧ (∀ z ∈ l, (Lit.int .i64 z).wf = true) ∧ l.length + 1 ≤ Rows.uptoBulk x.1 := by
  obtain ⟨a, l, cap, h1, h2, h3, h4, h5⟩ := read_slice (E := fun w p (z : Int) => w.cell? p = some (.int .i64 z) ∧ (Lit.int .i64 z).wf = true) (cost := fun _ => 1) Try.underlying26 (show Try.prog.cellsOf 3 = 1 by kernel_rfl) (by decide) (fun fuel cs x p hl hc ht => by
    obtain ⟨z, rfl, rfl, hz⟩ := DataW.trod_int Try.underlying3 ht
    refine ⟨z, ⟨by have := hc 0 (by decide); simpa [Addr.add] using this, hz⟩, by simp [Rows.uptoBulk]⟩) h
  refine ⟨a, l, cap, h1, ?_, ?_, by rw [int_cost] at h5; exact h5⟩
  · intro h0
    obtain ⟨x, e, hx, hi⟩ := h4 h0
    refine ⟨x, e, hx, fun i hi' => ?_⟩
    have := (hi i hi').1
    rw [Nat.mul_one] at this
    rw [this, List.getD_eq_getElem?_getD, List.getElem?_eq_getElem hi']; rfl
  · intro z hz
    obtain ⟨i, hi', rfl⟩ := List.getElem_of_mem hz
    obtain ⟨x, e, hx, hi⟩ := h4 (by omega)
    exact (hi i hi').2
set_option maxRecDepth 100000 in
theorem read_intssW {fuel : Nat} {cs : List Value} {x : DataW H × List MemPlace} (h : DataW.trod enc Try.prog w base spare held fuel 23 cs = some x) :
    ∃ (a : Option Addr) (l : List (List Int)) (cap : Nat), cs = [.slice a l.length cap] ∧ SlAt 1 IntsIn w a l ∧ (∀ y ∈ l, ∀ z ∈ y, (Lit.int .i64 z).wf = true) ∧ (l.map costInts).sum + 1 ≤ Rows.uptoBulk x.1 := by
  obtain ⟨a, l, cap, h1, h2, h3, h4, h5⟩ := read_slice (E := fun w p (y : List Int) => IntsIn w p y ∧ ∀ z ∈ y, (Lit.int .i64 z).wf = true) (cost := costInts) Try.underlying23 (show Try.prog.cellsOf 26 = 1 by kernel_rfl) (by decide) (fun fuel cs x p hl hc ht => by
    obtain ⟨a, l, cap, rfl, h4, h6, h5⟩ := read_intsW ht
    exact ⟨l, ⟨⟨a, cap, by simpa [Addr.add] using hc 0 (by decide), h4⟩, h6⟩, h5⟩) h
  refine ⟨a, l, cap, h1, ?_, ?_, h5⟩
  · intro h0
    obtain ⟨x, e, hx, hi⟩ := h4 h0
    exact ⟨x, e, hx, fun i hi' => (hi i hi').1⟩
  · intro y hy
    obtain ⟨i, hi', rfl⟩ := List.getElem_of_mem hy
    obtain ⟨x, e, hx, hi⟩ := h4 (by omega)
    exact (hi i hi').2
end
theorem cost_len : ∀ ls : List (List Int), ls.length ≤ (ls.map costInts).sum ∧ lens ls ≤ (ls.map costInts).sum
  | [] => ⟨Nat.le_refl _, Nat.le_refl _⟩
  | x :: rs => by
    obtain ⟨h1, h2⟩ := cost_len rs
    rw [lens_cons, List.map_cons, List.sum_cons, List.length_cons]
    unfold costInts at *
    omega
theorem cost_sys : ∀ l : List SysV, l.length ≤ (l.map costSys).sum
  | [] => Nat.le_refl _
  | x :: rs => by
    have h1 := cost_sys rs
    rw [List.map_cons, List.sum_cons, List.length_cons]
    unfold costSys at *
    omega
set_option maxRecDepth 100000 in
theorem law_PlanRight {H : Type} {enc : TypeId × Value → H} (W : World) {base : Nat} {r : Reach} {v0 v1 : Value} {d0 d1 : DataW H} {p0 p1 : List MemPlace} {ds : List (DataW H)} (o0 : Value.okWide Try.prog W r base 22 v0) (k0 : DataW.Trod enc Try.prog W 0 (fun _ => true) true 22 v0 d0 p0)
    (o1 : Value.okWide Try.prog W r base 23 v1) (k1 : DataW.Trod enc Try.prog W 0 (fun _ => true) true 23 v1 d1 p1) (hk : Rows.uptoSmall H ds = true) (hd0 : d0 ∈ ds) (hd1 : d1 ∈ ds) :
    Calls Try.prog 3 #[v0, v1] W fun e w' => e = .returned (.bool true) ∧ Below W.heap.size W w' := by
  obtain ⟨a, len, cap, rfl⟩ := okWide_slice Try.underlying22 o0
  obtain ⟨a1, len1, cap1, rfl⟩ := okWide_slice Try.underlying23 o1
  obtain ⟨fuel, hf⟩ := k0
  obtain ⟨fuel1, hf1⟩ := k1
  obtain ⟨a', l, cap', hcs, _, _, hz, hb⟩ := read_syss hf
  obtain ⟨a1', ls, cap1', hcs1, hz1, hw1, hb1⟩ := read_intssW hf1
  simp [Value.cells] at hcs hcs1
  obtain ⟨rfl, rfl, rfl⟩ := hcs
  obtain ⟨rfl, rfl, rfl⟩ := hcs1
  have h1 := Bulk.mem hd0
  have h2 := Bulk.mem hd1
  have h3 := of_decide_eq_true hk
  have h4 := cost_len ls
  have h5 := cost_sys l
  simp only at hb hb1
  exact walk_PlanRight a a1 cap cap1 _ _ l ls rfl rfl (by omega) (by omega) (by omega) hw1 W hz hz1
end Go.Proofs.Ytembjokbhbdoeaa
