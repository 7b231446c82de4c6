/- Lemmas for the law TopSlotWorld: MerkleP, MerkleP2, Keep. No conditions. -/
import Derived.WalkKit
import Derived.ProofKit
/- Trees of digests, by pairs and by halves (plain). -/
section
namespace Go.Mk
/-- The greatest power of two below n (1 for n = 1). -/
def hf (n : Nat) : Nat := 2 ^ Nat.log2 (n - 1)
section
variable (T : Int → Int → Int)
def pair : List Int → List Int
  | a :: b :: r => T a b :: pair r
  | r => r
def topF : Nat → List Int → Int
  | 0, _ => 0
  | f + 1, l => if l.length = 0 then 0 else if l.length = 1 then l.getD 0 0 else T (topF f (l.take (hf l.length))) (topF f (l.drop (hf l.length)))
/-- The root, by halves. -/
def top (l : List Int) : Int := topF T l.length l
/-- The proof of a leaf, by halves. -/
def provF : Nat → List Int → Nat → List Int
  | 0, _, _ => []
  | f + 1, l, i => if l.length = 1 then [] else
      if i < hf l.length then provF f (l.take (hf l.length)) i ++ [top T (l.drop (hf l.length))]
      else provF f (l.drop (hf l.length)) (i - hf l.length) ++ [top T (l.take (hf l.length))]
def prov (l : List Int) (i : Nat) : List Int := provF T l.length l i
end
end Go.Mk
end
/- Trees of digests: verifying, narrowing (plain). -/
section
namespace Go.Mk
section
variable (T : Int → Int → Int)
/-- To which digest a proof leads, by halves; none: it has another length. -/
def vo : Nat → Nat → Nat → Int → List Int → Option Int
  | 0, _, _, _, _ => none
  | f + 1, n, i, leaf, pr => if n = 1 then (if pr.length = 0 then some leaf else none) else if pr.length = 0 then none else
      if i < hf n then (vo f (hf n) i leaf pr.dropLast).map fun d => T d (pr.getD (pr.length - 1) 0)
      else (vo f (n - hf n) (i - hf n) leaf pr.dropLast).map fun d => T (pr.getD (pr.length - 1) 0) d
def ver (n i : Nat) (leaf : Int) (pr : List Int) : Option Int := vo T n n i leaf pr
/-- One step from the leaf. -/
def up (i : Nat) (leaf p : Int) : Int := if i % 2 = 0 then T leaf p else T p leaf
/-- The way to the first leaf that differs, by halves: its place and how many comparisons. -/
def ndF : Nat → List Int → List Int → Nat × Nat
  | 0, _, _ => (0, 0)
  | f + 1, a, b => if a.length ≤ 1 then (0, 0) else
      if top T (a.take (hf a.length)) ≠ top T (b.take (hf a.length)) then ((ndF f (a.take (hf a.length)) (b.take (hf a.length))).1, (ndF f (a.take (hf a.length)) (b.take (hf a.length))).2 + 1)
      else (hf a.length + (ndF f (a.drop (hf a.length)) (b.drop (hf a.length))).1, (ndF f (a.drop (hf a.length)) (b.drop (hf a.length))).2 + 1)
def nd (a b : List Int) : Nat × Nat := ndF T a.length a b
/-- One level down. -/
def down (n : Nat) (a b : List Int) (p : Nat × Nat) : Nat × Nat :=
  if 2 * p.1 + 1 = n then (2 * p.1, p.2) else if a.getD (2 * p.1) 0 = b.getD (2 * p.1) 0 then (2 * p.1 + 1, p.2 + 1) else (2 * p.1, p.2 + 1)
end
end Go.Mk
end
/- What memory keeps while it grows: n cells at once. No program is named here. -/
section
namespace Go
open Go.RowKit
namespace Mem
theorem keep3 {w w1 w2 : World} {B : Nat} {A0 A1 A2 : Addr} {v0 v1 v2 : Value} (h : w1.cell? A0 = some v0 ∧ w1.cell? A1 = some v1 ∧ w1.cell? A2 = some v2 ∧ Below B w w1) (hb : Below w1.heap.size w1 w2) (hB : B ≤ w.heap.size) : w2.cell? A0 = some v0 ∧ w2.cell? A1 = some v1 ∧ w2.cell? A2 = some v2 ∧ Below B w w2 := by
  obtain ⟨h0, h1, h2, hh⟩ := h
  have k : ∀ {A : Addr} {v : Value}, w1.cell? A = some v → w2.cell? A = some v := fun {A v} h => (hb.cell (World.block_lt_of_cell? w1 _ h)).trans h
  exact ⟨k h0, k h1, k h2, hh.trans (hb.mono (Nat.le_trans hB hh.size))⟩
theorem lastk3 {p0 p1 p2 q : Prop} (h : p0 ∧ p1 ∧ p2 ∧ q) : q := h.2.2.2
end Mem
end Go
end
