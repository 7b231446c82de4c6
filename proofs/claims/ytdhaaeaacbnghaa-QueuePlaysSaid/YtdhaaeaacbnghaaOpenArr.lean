/- An argument that is a slice of arrays of integers, as one list of integers. No program is named here. -/
import Derived.Test.YtdhaaeaacbnghaaMem2
import Derived.Deep.Slices
import Derived.OpenShut
import Derived.ChangeArms
namespace Go
open Go.RowKit Go.ChangeShapes Go.WideShapes Go.Deep
namespace Mem
section
variable {H : Type} {enc : TypeId × Value → H} {P : Program} {w : World} {base : Nat} {spare : Nat → Bool} {held : Bool}
def intAt (w : World) (a : Addr) : Int := match w.cell? a with
  | some (.int _ z) => z
  | _ => 0
theorem open_arrs {t e f : TypeId} {q : Nat} {k : IntKind} {fuel : Nat} {cs : List Value} {x : DataW H × List MemPlace} (ht : P.underlying t = some (.slice e)) (he : P.underlying e = some (.array q f)) (hf : P.underlying f = some (.int k))
    (hce : P.cellsOf e = q) (hcf : P.cellsOf f = 1) (h : DataW.trod enc P w base spare held fuel t cs = some x) :
    ∃ (a : Option Addr) (n cap : Nat) (zs : List Int), cs = [.slice a n cap] ∧ zs.length = n * q ∧ IntsAt k w a zs ∧ (∀ z ∈ zs, (Lit.int k z).wf = true) ∧ n ≤ cap ∧ cap ≤ maxLen ∧
      ((x.1 = .nil ∧ n = 0) ∨ ∃ el sp, x.1 = .slice el sp ∧ el.length = n) := by
  rcases open_slice ht h with ⟨rfl, rfl⟩ | ⟨a, n, cap, m, n2, D, Pl, rfl, _, hl, hm, hmm, rfl, hi⟩
  · exact ⟨none, 0, 0, [], rfl, by simp, fun hh => by simp at hh, by simp, Nat.le_refl _, Nat.zero_le _, .inl ⟨rfl, rfl⟩⟩
  · have hnm : n ≤ m := by rw [hmm]; split <;> omega
    have key : ∀ i, i < n * q → ∃ z, w.cell? (a.add i) = some (.int k z) ∧ (Lit.int k z).wf = true := by
      intro i hiq
      have hq : 0 < q := by
        rcases Nat.eq_zero_or_pos q with h0 | h0
        · rw [h0] at hiq; omega
        · exact h0
      have h1 : i / q < n := Nat.div_lt_of_lt_mul (by rw [Nat.mul_comm]; exact hiq)
      have h2 : i % q < q := Nat.mod_lt _ hq
      obtain ⟨cs', hc, htr⟩ := hi (i / q) (by omega)
      obtain ⟨_, hcl, hat⟩ := World.cells?_some hc
      obtain ⟨xs, n3, _, _, hlen, hxl, hxs⟩ := DataW.trod_array he htr
      have hx := hxs (i % q) h2
      rw [hcf, Nat.mul_one] at hx
      rw [hce] at hlen hat
      have hj : i % q < cs'.length := by omega
      have hone : (cs'.drop (i % q)).take 1 = [cs'[i % q]] := by rw [List.drop_eq_getElem_cons hj]; rfl
      rw [hone, List.getElem?_eq_getElem (by omega)] at hx
      obtain ⟨z, hz, _, hwf⟩ := DataW.trod_int hf hx
      have hz' : cs'[i % q] = .int k z := by injection hz
      have hcell := hat (i % q) h2
      rw [List.getElem?_eq_getElem hj, hz', Addr.add_add] at hcell
      refine ⟨z, ?_, hwf⟩
      rw [← hcell, show i / q * q + i % q = i by rw [Nat.mul_comm]; exact Nat.div_add_mod i q]
    refine ⟨some a, n, cap, (List.range (n * q)).map fun i => intAt w (a.add i), rfl, by simp, ?_, ?_, hl, hm, .inr ⟨_, _, rfl, by simp⟩⟩
    · intro hh
      rw [List.length_map, List.length_range] at hh
      refine ⟨a, rfl, ?_, fun i hi' => ?_⟩
      · obtain ⟨z, hz, _⟩ := key 0 hh
        have := World.block_lt_of_cell? _ _ hz
        rwa [block_of_add] at this
      · rw [List.length_map, List.length_range] at hi'
        obtain ⟨z, hz, _⟩ := key i hi'
        rw [hz]
        simp [List.getD_eq_getElem?_getD, hi', intAt, hz]
    · intro z hz
      obtain ⟨i, hi', rfl⟩ := List.mem_map.1 hz
      obtain ⟨z, hz, hwf⟩ := key i (List.mem_range.1 hi')
      simp only [intAt, hz]
      exact hwf
end
end Mem
end Go
