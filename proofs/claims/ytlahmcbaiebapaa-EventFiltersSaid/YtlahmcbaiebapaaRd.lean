/- Arguments of nested slices and structs, read whole. No function of the program is named here. -/
import Derived.Test.YtlahmcbaiebapaaBulk
import Derived.Test.YtlahmcbaiebapaaMem2
import Derived.Deep.Slices
import Derived.OpenShut
import Derived.ChangeArms
namespace Go.Proofs.Ytlahmcbaiebapaa
open Go.RowKit Go.ChangeShapes Go.WideShapes Go.Deep Go.Mem
set_option linter.unusedVariables false
/-- The elements of a slice whose elements take sz cells each; E says what lies at an element's address. -/
def SlAt {α : Type} (sz : Nat) (E : World → Addr → α → Prop) (w : World) (a : Option Addr) (l : List α) : Prop :=
  0 < l.length → ∃ x, a = some x ∧ x.block < w.heap.size ∧ ∀ i (h : i < l.length), E w (x.add (i * sz)) l[i]
/-- a fact that abides what lies beyond -/
def Abides {α : Type} (E : World → Addr → α → Prop) : Prop := ∀ w w' p y, E w p y → Below w.heap.size w w' → E w' p y
theorem SlAt.below {α : Type} {sz : Nat} {E : World → Addr → α → Prop} (hE : Abides E) {w w' : World} {a : Option Addr} {l : List α} (h : SlAt sz E w a l) (hb : Below w.heap.size w w') : SlAt sz E w' a l := fun h0 => by
  obtain ⟨x, h1, h2, h3⟩ := h h0
  exact ⟨x, h1, Nat.lt_of_lt_of_le h2 hb.size, fun i hi => hE _ _ _ _ (h3 i hi) hb⟩
theorem cell_abides {w w' : World} {p : Addr} {v : Value} (h : w.cell? p = some v) (hb : Below w.heap.size w w') : w'.cell? p = some v :=
  (hb.cell (World.block_lt_of_cell? _ _ h)).trans h
/-- the blocks from B on are as they were -/
def SameUp (B : Nat) (w w2 : World) : Prop := w.heap.size ≤ w2.heap.size ∧ ∀ g, B ≤ g → g < w.heap.size → w2.heap[g]? = w.heap[g]?
/-- R holds, and leans on the blocks from B on alone -/
def Up (B : Nat) (R : World → Prop) (w : World) : Prop := ∀ w2, SameUp B w w2 → R w2
theorem Up.now {B : Nat} {R : World → Prop} {w : World} (h : Up B R w) : R w := h w ⟨Nat.le_refl _, fun _ _ _ => rfl⟩
theorem Up.below {B : Nat} {R : World → Prop} {w w' : World} (h : Up B R w) (hb : Below w.heap.size w w') : Up B R w' := fun w2 hs => h w2 ⟨Nat.le_trans hb.size hs.1, fun g h1 h2 => (hs.2 g h1 (Nat.lt_of_lt_of_le h2 hb.size)).trans (hb.block g h2)⟩
theorem Up.lower {B C : Nat} {R : World → Prop} {w : World} (h : Up B R w) (hc : C ≤ B) : Up C R w := fun w2 hs => h w2 ⟨hs.1, fun g h1 h2 => hs.2 g (Nat.le_trans hc h1) h2⟩
theorem Up.set {B : Nat} {R : World → Prop} {w : World} (h : Up B R w) (p : Addr) (v : Value) (hp : p.block < B) : Up B R (w.setCell p v) := fun w2 hs => h w2 ⟨by simpa using hs.1, fun g h1 h2 => (hs.2 g h1 (by simpa using h2)).trans (Below.heap_setCell w p v g (by omega))⟩
theorem Up.grown {B : Nat} {R : World → Prop} {w w' : World} {row : Option Nat} (h : Up B R w) (hg : w.grownBy w' row) (hr : ∀ r, row = some r → r < B) : Up B R w' := fun w2 hs => h w2 ⟨Nat.le_trans hg.size hs.1, fun g h1 h2 => (hs.2 g h1 (Nat.lt_of_lt_of_le h2 hg.size)).trans (hg.block g h2 (fun e => by have := hr g e.symm; omega))⟩
theorem cell_same {w w2 : World} {p : Addr} (h : w2.heap[p.block]? = w.heap[p.block]?) : w2.cell? p = w.cell? p := by
  unfold World.cell?; rw [h]
theorem cell_up {B : Nat} {w w2 : World} {p : Addr} {v : Value} (hs : SameUp B w w2) (hp : B ≤ p.block) (h : w.cell? p = some v) : w2.cell? p = some v :=
  (cell_same (hs.2 _ hp (World.block_lt_of_cell? _ _ h))).trans h
theorem ints_up {B : Nat} {w w2 : World} {k : IntKind} {a : Option Addr} {zs : List Int} (hs : SameUp B w w2) (hp : ∀ x, a = some x → B ≤ x.block) (h : IntsAt k w a zs) : IntsAt k w2 a zs := fun h0 => by
  obtain ⟨x, e, h1, h2⟩ := h h0
  exact ⟨x, e, Nat.lt_of_lt_of_le h1 hs.1, fun i hi => cell_up hs (by rw [block_of_add]; exact hp x e) (h2 i hi)⟩
section
variable {H : Type} {enc : TypeId × Value → H} {P : Program} {w : World} {base : Nat} {spare : Nat → Bool} {held : Bool}
theorem bulk_range {D : Nat → DataW H} {α : Type} {cost : α → Nat} (n : Nat) (Y : Nat → α) (h : ∀ i, i < n → cost (Y i) ≤ Rows.uptoBulk (D i)) : (((List.range n).map Y).map cost).sum ≤ Rows.uptoBulkAll ((List.range n).map D) := by
  have key : ∀ l : List Nat, (∀ i ∈ l, i < n) → ((l.map Y).map cost).sum ≤ Rows.uptoBulkAll (l.map D) := by
    intro l
    induction l with
    | nil => intro _; simp [Rows.uptoBulkAll]
    | cons i r ih =>
      intro hl
      have h1 := h i (hl i List.mem_cons_self)
      have h2 := ih (fun j hj => hl j (List.mem_cons_of_mem _ hj))
      simp only [List.map_cons, List.sum_cons, Rows.uptoBulkAll]
      omega
  exact key _ fun i hi => List.mem_range.1 hi
theorem read_slice {α : Type} [Inhabited α] {t e : TypeId} {sz : Nat} {E : World → Addr → α → Prop} {cost : α → Nat} (ht : P.underlying t = some (.slice e)) (hs : P.cellsOf e = sz) (h0 : 0 < sz)
    (hE : ∀ (fuel : Nat) (cs : List Value) (x : DataW H × List MemPlace) (p : Addr), cs.length = sz → (∀ j, j < sz → w.cell? (p.add j) = cs[j]?) → DataW.trod enc P w base spare held fuel e cs = some x → ∃ y, E w p y ∧ cost y ≤ Rows.uptoBulk x.1)
    {fuel : Nat} {cs : List Value} {x : DataW H × List MemPlace} (h : DataW.trod enc P w base spare held fuel t cs = some x) :
    ∃ (a : Option Addr) (l : List α) (cap : Nat), cs = [.slice a l.length cap] ∧ l.length ≤ cap ∧ cap ≤ maxLen ∧ SlAt sz E w a l ∧ (l.map cost).sum + 1 ≤ Rows.uptoBulk x.1 := by
  rcases open_slice ht h with ⟨rfl, rfl⟩ | ⟨a, n, cap, m, n2, D, Pl, rfl, _, hl, hm, hmm, rfl, hi⟩
  · exact ⟨none, [], 0, rfl, Nat.le_refl _, Nat.zero_le _, fun hh => by simp at hh, by simp [Rows.uptoBulk]⟩
  · have hnm : n ≤ m := by rw [hmm]; split <;> omega
    have key : ∀ i, i < n → ∃ y, E w (a.add (i * sz)) y ∧ cost y ≤ Rows.uptoBulk (D i) := by
      intro i hin
      obtain ⟨cs', hc, htr⟩ := hi i (by omega)
      obtain ⟨_, hcl, hat⟩ := World.cells?_some hc
      rw [hs] at hcl hat
      exact hE _ cs' _ (a.add (i * sz)) hcl (fun j hj => hat j hj) htr
    obtain ⟨Y, hY⟩ := choose_lt key
    refine ⟨some a, (List.range n).map Y, cap, by simp, by simpa using hl, hm, fun hh => ?_, ?_⟩
    · rw [List.length_map, List.length_range] at hh
      refine ⟨a, rfl, ?_, fun i hi' => ?_⟩
      · obtain ⟨cs', hc, _⟩ := hi 0 (by omega)
        obtain ⟨_, hcl, hat⟩ := World.cells?_some hc
        have h1 := hat 0 (by rw [hs]; exact h0)
        rw [List.getElem?_eq_getElem (by rw [hcl, hs]; exact h0)] at h1
        have := World.block_lt_of_cell? _ _ h1
        simpa [block_of_add] using this
      · rw [List.length_map, List.length_range] at hi'
        simpa using (hY i hi').1
    · have := bulk_range n Y (fun i hi => (hY i hi).2)
      simp only [Rows.uptoBulk]
      omega
end
end Go.Proofs.Ytlahmcbaiebapaa
