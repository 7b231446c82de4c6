/- Lemmas for the law SystemChecks: Keep. No conditions. -/
import Derived.WalkKit
import Derived.ProofKit
/- What memory keeps while it grows: n cells at once. No program is named here. -/
section
namespace Go
open Go.RowKit
namespace Mem
theorem keep1 {w w1 w2 : World} {B : Nat} {A0 : Addr} {v0 : Value} (h : w1.cell? A0 = some v0 ∧ Below B w w1) (hb : Below w1.heap.size w1 w2) (hB : B ≤ w.heap.size) : w2.cell? A0 = some v0 ∧ Below B w w2 := by
  obtain ⟨h0, hh⟩ := h
  have k : ∀ {A : Addr} {v : Value}, w1.cell? A = some v → w2.cell? A = some v := fun {A v} h => (hb.cell (World.block_lt_of_cell? w1 _ h)).trans h
  exact ⟨k h0, hh.trans (hb.mono (Nat.le_trans hB hh.size))⟩
theorem keeps1 {w1 w2 : World} {p : World → Prop} {A0 : Addr} {v0 : Value} (h : w1.cell? A0 = some v0 ∧ p w1) (hb : Below w1.heap.size w1 w2) (hp : p w1 → Below w1.heap.size w1 w2 → p w2) : w2.cell? A0 = some v0 ∧ p w2 := by
  obtain ⟨h0, hh⟩ := h
  have k : ∀ {A : Addr} {v : Value}, w1.cell? A = some v → w2.cell? A = some v := fun {A v} h => (hb.cell (World.block_lt_of_cell? w1 _ h)).trans h
  exact ⟨k h0, hp hh hb⟩
theorem lastk1 {p0 q : Prop} (h : p0 ∧ q) : q := h.2
theorem midk1 {p0 q r : Prop} (h : p0 ∧ q ∧ r) : q := h.2.1
theorem keep2 {w w1 w2 : World} {B : Nat} {A0 A1 : Addr} {v0 v1 : Value} (h : w1.cell? A0 = some v0 ∧ w1.cell? A1 = some v1 ∧ Below B w w1) (hb : Below w1.heap.size w1 w2) (hB : B ≤ w.heap.size) : w2.cell? A0 = some v0 ∧ w2.cell? A1 = some v1 ∧ Below B w w2 := by
  obtain ⟨h0, h1, hh⟩ := h
  have k : ∀ {A : Addr} {v : Value}, w1.cell? A = some v → w2.cell? A = some v := fun {A v} h => (hb.cell (World.block_lt_of_cell? w1 _ h)).trans h
  exact ⟨k h0, k h1, hh.trans (hb.mono (Nat.le_trans hB hh.size))⟩
theorem keeps2 {w1 w2 : World} {p : World → Prop} {A0 A1 : Addr} {v0 v1 : Value} (h : w1.cell? A0 = some v0 ∧ w1.cell? A1 = some v1 ∧ p w1) (hb : Below w1.heap.size w1 w2) (hp : p w1 → Below w1.heap.size w1 w2 → p w2) : w2.cell? A0 = some v0 ∧ w2.cell? A1 = some v1 ∧ p w2 := by
  obtain ⟨h0, h1, hh⟩ := h
  have k : ∀ {A : Addr} {v : Value}, w1.cell? A = some v → w2.cell? A = some v := fun {A v} h => (hb.cell (World.block_lt_of_cell? w1 _ h)).trans h
  exact ⟨k h0, k h1, hp hh hb⟩
theorem lastk2 {p0 p1 q : Prop} (h : p0 ∧ p1 ∧ q) : q := h.2.2
theorem midk2 {p0 p1 q r : Prop} (h : p0 ∧ p1 ∧ q ∧ r) : q := h.2.2.1
theorem keep3 {w w1 w2 : World} {B : Nat} {A0 A1 A2 : Addr} {v0 v1 v2 : Value} (h : w1.cell? A0 = some v0 ∧ w1.cell? A1 = some v1 ∧ w1.cell? A2 = some v2 ∧ Below B w w1) (hb : Below w1.heap.size w1 w2) (hB : B ≤ w.heap.size) : w2.cell? A0 = some v0 ∧ w2.cell? A1 = some v1 ∧ w2.cell? A2 = some v2 ∧ Below B w w2 := by
  obtain ⟨h0, h1, h2, hh⟩ := h
  have k : ∀ {A : Addr} {v : Value}, w1.cell? A = some v → w2.cell? A = some v := fun {A v} h => (hb.cell (World.block_lt_of_cell? w1 _ h)).trans h
  exact ⟨k h0, k h1, k h2, hh.trans (hb.mono (Nat.le_trans hB hh.size))⟩
theorem keeps3 {w1 w2 : World} {p : World → Prop} {A0 A1 A2 : Addr} {v0 v1 v2 : Value} (h : w1.cell? A0 = some v0 ∧ w1.cell? A1 = some v1 ∧ w1.cell? A2 = some v2 ∧ p w1) (hb : Below w1.heap.size w1 w2) (hp : p w1 → Below w1.heap.size w1 w2 → p w2) : w2.cell? A0 = some v0 ∧ w2.cell? A1 = some v1 ∧ w2.cell? A2 = some v2 ∧ p w2 := by
  obtain ⟨h0, h1, h2, hh⟩ := h
  have k : ∀ {A : Addr} {v : Value}, w1.cell? A = some v → w2.cell? A = some v := fun {A v} h => (hb.cell (World.block_lt_of_cell? w1 _ h)).trans h
  exact ⟨k h0, k h1, k h2, hp hh hb⟩
theorem lastk3 {p0 p1 p2 q : Prop} (h : p0 ∧ p1 ∧ p2 ∧ q) : q := h.2.2.2
theorem midk3 {p0 p1 p2 q r : Prop} (h : p0 ∧ p1 ∧ p2 ∧ q ∧ r) : q := h.2.2.2.1
theorem keep4 {w w1 w2 : World} {B : Nat} {A0 A1 A2 A3 : Addr} {v0 v1 v2 v3 : Value} (h : w1.cell? A0 = some v0 ∧ w1.cell? A1 = some v1 ∧ w1.cell? A2 = some v2 ∧ w1.cell? A3 = some v3 ∧ Below B w w1) (hb : Below w1.heap.size w1 w2) (hB : B ≤ w.heap.size) : w2.cell? A0 = some v0 ∧ w2.cell? A1 = some v1 ∧ w2.cell? A2 = some v2 ∧ w2.cell? A3 = some v3 ∧ Below B w w2 := by
  obtain ⟨h0, h1, h2, h3, hh⟩ := h
  have k : ∀ {A : Addr} {v : Value}, w1.cell? A = some v → w2.cell? A = some v := fun {A v} h => (hb.cell (World.block_lt_of_cell? w1 _ h)).trans h
  exact ⟨k h0, k h1, k h2, k h3, hh.trans (hb.mono (Nat.le_trans hB hh.size))⟩
theorem keeps4 {w1 w2 : World} {p : World → Prop} {A0 A1 A2 A3 : Addr} {v0 v1 v2 v3 : Value} (h : w1.cell? A0 = some v0 ∧ w1.cell? A1 = some v1 ∧ w1.cell? A2 = some v2 ∧ w1.cell? A3 = some v3 ∧ p w1) (hb : Below w1.heap.size w1 w2) (hp : p w1 → Below w1.heap.size w1 w2 → p w2) : w2.cell? A0 = some v0 ∧ w2.cell? A1 = some v1 ∧ w2.cell? A2 = some v2 ∧ w2.cell? A3 = some v3 ∧ p w2 := by
  obtain ⟨h0, h1, h2, h3, hh⟩ := h
  have k : ∀ {A : Addr} {v : Value}, w1.cell? A = some v → w2.cell? A = some v := fun {A v} h => (hb.cell (World.block_lt_of_cell? w1 _ h)).trans h
  exact ⟨k h0, k h1, k h2, k h3, hp hh hb⟩
theorem lastk4 {p0 p1 p2 p3 q : Prop} (h : p0 ∧ p1 ∧ p2 ∧ p3 ∧ q) : q := h.2.2.2.2
theorem midk4 {p0 p1 p2 p3 q r : Prop} (h : p0 ∧ p1 ∧ p2 ∧ p3 ∧ q ∧ r) : q := h.2.2.2.2.1
theorem keep5 {w w1 w2 : World} {B : Nat} {A0 A1 A2 A3 A4 : Addr} {v0 v1 v2 v3 v4 : Value} (h : w1.cell? A0 = some v0 ∧ w1.cell? A1 = some v1 ∧ w1.cell? A2 = some v2 ∧ w1.cell? A3 = some v3 ∧ w1.cell? A4 = some v4 ∧ Below B w w1) (hb : Below w1.heap.size w1 w2) (hB : B ≤ w.heap.size) : w2.cell? A0 = some v0 ∧ w2.cell? A1 = some v1 ∧ w2.cell? A2 = some v2 ∧ w2.cell? A3 = some v3 ∧ w2.cell? A4 = some v4 ∧ Below B w w2 := by
  obtain ⟨h0, h1, h2, h3, h4, hh⟩ := h
  have k : ∀ {A : Addr} {v : Value}, w1.cell? A = some v → w2.cell? A = some v := fun {A v} h => (hb.cell (World.block_lt_of_cell? w1 _ h)).trans h
  exact ⟨k h0, k h1, k h2, k h3, k h4, hh.trans (hb.mono (Nat.le_trans hB hh.size))⟩
theorem keeps5 {w1 w2 : World} {p : World → Prop} {A0 A1 A2 A3 A4 : Addr} {v0 v1 v2 v3 v4 : Value} (h : w1.cell? A0 = some v0 ∧ w1.cell? A1 = some v1 ∧ w1.cell? A2 = some v2 ∧ w1.cell? A3 = some v3 ∧ w1.cell? A4 = some v4 ∧ p w1) (hb : Below w1.heap.size w1 w2) (hp : p w1 → Below w1.heap.size w1 w2 → p w2) : w2.cell? A0 = some v0 ∧ w2.cell? A1 = some v1 ∧ w2.cell? A2 = some v2 ∧ w2.cell? A3 = some v3 ∧ w2.cell? A4 = some v4 ∧ p w2 := by
  obtain ⟨h0, h1, h2, h3, h4, hh⟩ := h
  have k : ∀ {A : Addr} {v : Value}, w1.cell? A = some v → w2.cell? A = some v := fun {A v} h => (hb.cell (World.block_lt_of_cell? w1 _ h)).trans h
  exact ⟨k h0, k h1, k h2, k h3, k h4, hp hh hb⟩
theorem lastk5 {p0 p1 p2 p3 p4 q : Prop} (h : p0 ∧ p1 ∧ p2 ∧ p3 ∧ p4 ∧ q) : q := h.2.2.2.2.2
theorem midk5 {p0 p1 p2 p3 p4 q r : Prop} (h : p0 ∧ p1 ∧ p2 ∧ p3 ∧ p4 ∧ q ∧ r) : q := h.2.2.2.2.2.1
theorem keep6 {w w1 w2 : World} {B : Nat} {A0 A1 A2 A3 A4 A5 : Addr} {v0 v1 v2 v3 v4 v5 : Value} (h : w1.cell? A0 = some v0 ∧ w1.cell? A1 = some v1 ∧ w1.cell? A2 = some v2 ∧ w1.cell? A3 = some v3 ∧ w1.cell? A4 = some v4 ∧ w1.cell? A5 = some v5 ∧ Below B w w1) (hb : Below w1.heap.size w1 w2) (hB : B ≤ w.heap.size) : w2.cell? A0 = some v0 ∧ w2.cell? A1 = some v1 ∧ w2.cell? A2 = some v2 ∧ w2.cell? A3 = some v3 ∧ w2.cell? A4 = some v4 ∧ w2.cell? A5 = some v5 ∧ Below B w w2 := by
  obtain ⟨h0, h1, h2, h3, h4, h5, hh⟩ := h
  have k : ∀ {A : Addr} {v : Value}, w1.cell? A = some v → w2.cell? A = some v := fun {A v} h => (hb.cell (World.block_lt_of_cell? w1 _ h)).trans h
  exact ⟨k h0, k h1, k h2, k h3, k h4, k h5, hh.trans (hb.mono (Nat.le_trans hB hh.size))⟩
theorem keeps6 {w1 w2 : World} {p : World → Prop} {A0 A1 A2 A3 A4 A5 : Addr} {v0 v1 v2 v3 v4 v5 : Value} (h : w1.cell? A0 = some v0 ∧ w1.cell? A1 = some v1 ∧ w1.cell? A2 = some v2 ∧ w1.cell? A3 = some v3 ∧ w1.cell? A4 = some v4 ∧ w1.cell? A5 = some v5 ∧ p w1) (hb : Below w1.heap.size w1 w2) (hp : p w1 → Below w1.heap.size w1 w2 → p w2) : w2.cell? A0 = some v0 ∧ w2.cell? A1 = some v1 ∧ w2.cell? A2 = some v2 ∧ w2.cell? A3 = some v3 ∧ w2.cell? A4 = some v4 ∧ w2.cell? A5 = some v5 ∧ p w2 := by
  obtain ⟨h0, h1, h2, h3, h4, h5, hh⟩ := h
  have k : ∀ {A : Addr} {v : Value}, w1.cell? A = some v → w2.cell? A = some v := fun {A v} h => (hb.cell (World.block_lt_of_cell? w1 _ h)).trans h
  exact ⟨k h0, k h1, k h2, k h3, k h4, k h5, hp hh hb⟩
theorem lastk6 {p0 p1 p2 p3 p4 p5 q : Prop} (h : p0 ∧ p1 ∧ p2 ∧ p3 ∧ p4 ∧ p5 ∧ q) : q := h.2.2.2.2.2.2
theorem midk6 {p0 p1 p2 p3 p4 p5 q r : Prop} (h : p0 ∧ p1 ∧ p2 ∧ p3 ∧ p4 ∧ p5 ∧ q ∧ r) : q := h.2.2.2.2.2.2.1
theorem keep7 {w w1 w2 : World} {B : Nat} {A0 A1 A2 A3 A4 A5 A6 : Addr} {v0 v1 v2 v3 v4 v5 v6 : Value} (h : w1.cell? A0 = some v0 ∧ w1.cell? A1 = some v1 ∧ w1.cell? A2 = some v2 ∧ w1.cell? A3 = some v3 ∧ w1.cell? A4 = some v4 ∧ w1.cell? A5 = some v5 ∧ w1.cell? A6 = some v6 ∧ Below B w w1) (hb : Below w1.heap.size w1 w2) (hB : B ≤ w.heap.size) : w2.cell? A0 = some v0 ∧ w2.cell? A1 = some v1 ∧ w2.cell? A2 = some v2 ∧ w2.cell? A3 = some v3 ∧ w2.cell? A4 = some v4 ∧ w2.cell? A5 = some v5 ∧ w2.cell? A6 = some v6 ∧ Below B w w2 := by
  obtain ⟨h0, h1, h2, h3, h4, h5, h6, hh⟩ := h
  have k : ∀ {A : Addr} {v : Value}, w1.cell? A = some v → w2.cell? A = some v := fun {A v} h => (hb.cell (World.block_lt_of_cell? w1 _ h)).trans h
  exact ⟨k h0, k h1, k h2, k h3, k h4, k h5, k h6, hh.trans (hb.mono (Nat.le_trans hB hh.size))⟩
theorem keeps7 {w1 w2 : World} {p : World → Prop} {A0 A1 A2 A3 A4 A5 A6 : Addr} {v0 v1 v2 v3 v4 v5 v6 : Value} (h : w1.cell? A0 = some v0 ∧ w1.cell? A1 = some v1 ∧ w1.cell? A2 = some v2 ∧ w1.cell? A3 = some v3 ∧ w1.cell? A4 = some v4 ∧ w1.cell? A5 = some v5 ∧ w1.cell? A6 = some v6 ∧ p w1) (hb : Below w1.heap.size w1 w2) (hp : p w1 → Below w1.heap.size w1 w2 → p w2) : w2.cell? A0 = some v0 ∧ w2.cell? A1 = some v1 ∧ w2.cell? A2 = some v2 ∧ w2.cell? A3 = some v3 ∧ w2.cell? A4 = some v4 ∧ w2.cell? A5 = some v5 ∧ w2.cell? A6 = some v6 ∧ p w2 := by
  obtain ⟨h0, h1, h2, h3, h4, h5, h6, hh⟩ := h
  have k : ∀ {A : Addr} {v : Value}, w1.cell? A = some v → w2.cell? A = some v := fun {A v} h => (hb.cell (World.block_lt_of_cell? w1 _ h)).trans h
  exact ⟨k h0, k h1, k h2, k h3, k h4, k h5, k h6, hp hh hb⟩
theorem lastk7 {p0 p1 p2 p3 p4 p5 p6 q : Prop} (h : p0 ∧ p1 ∧ p2 ∧ p3 ∧ p4 ∧ p5 ∧ p6 ∧ q) : q := h.2.2.2.2.2.2.2
theorem midk7 {p0 p1 p2 p3 p4 p5 p6 q r : Prop} (h : p0 ∧ p1 ∧ p2 ∧ p3 ∧ p4 ∧ p5 ∧ p6 ∧ q ∧ r) : q := h.2.2.2.2.2.2.2.1
theorem keep8 {w w1 w2 : World} {B : Nat} {A0 A1 A2 A3 A4 A5 A6 A7 : Addr} {v0 v1 v2 v3 v4 v5 v6 v7 : Value} (h : w1.cell? A0 = some v0 ∧ w1.cell? A1 = some v1 ∧ w1.cell? A2 = some v2 ∧ w1.cell? A3 = some v3 ∧ w1.cell? A4 = some v4 ∧ w1.cell? A5 = some v5 ∧ w1.cell? A6 = some v6 ∧ w1.cell? A7 = some v7 ∧ Below B w w1) (hb : Below w1.heap.size w1 w2) (hB : B ≤ w.heap.size) : w2.cell? A0 = some v0 ∧ w2.cell? A1 = some v1 ∧ w2.cell? A2 = some v2 ∧ w2.cell? A3 = some v3 ∧ w2.cell? A4 = some v4 ∧ w2.cell? A5 = some v5 ∧ w2.cell? A6 = some v6 ∧ w2.cell? A7 = some v7 ∧ Below B w w2 := by
  obtain ⟨h0, h1, h2, h3, h4, h5, h6, h7, hh⟩ := h
  have k : ∀ {A : Addr} {v : Value}, w1.cell? A = some v → w2.cell? A = some v := fun {A v} h => (hb.cell (World.block_lt_of_cell? w1 _ h)).trans h
  exact ⟨k h0, k h1, k h2, k h3, k h4, k h5, k h6, k h7, hh.trans (hb.mono (Nat.le_trans hB hh.size))⟩
theorem keeps8 {w1 w2 : World} {p : World → Prop} {A0 A1 A2 A3 A4 A5 A6 A7 : Addr} {v0 v1 v2 v3 v4 v5 v6 v7 : Value} (h : w1.cell? A0 = some v0 ∧ w1.cell? A1 = some v1 ∧ w1.cell? A2 = some v2 ∧ w1.cell? A3 = some v3 ∧ w1.cell? A4 = some v4 ∧ w1.cell? A5 = some v5 ∧ w1.cell? A6 = some v6 ∧ w1.cell? A7 = some v7 ∧ p w1) (hb : Below w1.heap.size w1 w2) (hp : p w1 → Below w1.heap.size w1 w2 → p w2) : w2.cell? A0 = some v0 ∧ w2.cell? A1 = some v1 ∧ w2.cell? A2 = some v2 ∧ w2.cell? A3 = some v3 ∧ w2.cell? A4 = some v4 ∧ w2.cell? A5 = some v5 ∧ w2.cell? A6 = some v6 ∧ w2.cell? A7 = some v7 ∧ p w2 := by
  obtain ⟨h0, h1, h2, h3, h4, h5, h6, h7, hh⟩ := h
  have k : ∀ {A : Addr} {v : Value}, w1.cell? A = some v → w2.cell? A = some v := fun {A v} h => (hb.cell (World.block_lt_of_cell? w1 _ h)).trans h
  exact ⟨k h0, k h1, k h2, k h3, k h4, k h5, k h6, k h7, hp hh hb⟩
theorem lastk8 {p0 p1 p2 p3 p4 p5 p6 p7 q : Prop} (h : p0 ∧ p1 ∧ p2 ∧ p3 ∧ p4 ∧ p5 ∧ p6 ∧ p7 ∧ q) : q := h.2.2.2.2.2.2.2.2
theorem midk8 {p0 p1 p2 p3 p4 p5 p6 p7 q r : Prop} (h : p0 ∧ p1 ∧ p2 ∧ p3 ∧ p4 ∧ p5 ∧ p6 ∧ p7 ∧ q ∧ r) : q := h.2.2.2.2.2.2.2.2.1
theorem keep9 {w w1 w2 : World} {B : Nat} {A0 A1 A2 A3 A4 A5 A6 A7 A8 : Addr} {v0 v1 v2 v3 v4 v5 v6 v7 v8 : Value} (h : w1.cell? A0 = some v0 ∧ w1.cell? A1 = some v1 ∧ w1.cell? A2 = some v2 ∧ w1.cell? A3 = some v3 ∧ w1.cell? A4 = some v4 ∧ w1.cell? A5 = some v5 ∧ w1.cell? A6 = some v6 ∧ w1.cell? A7 = some v7 ∧ w1.cell? A8 = some v8 ∧ Below B w w1) (hb : Below w1.heap.size w1 w2) (hB : B ≤ w.heap.size) : w2.cell? A0 = some v0 ∧ w2.cell? A1 = some v1 ∧ w2.cell? A2 = some v2 ∧ w2.cell? A3 = some v3 ∧ w2.cell? A4 = some v4 ∧ w2.cell? A5 = some v5 ∧ w2.cell? A6 = some v6 ∧ w2.cell? A7 = some v7 ∧ w2.cell? A8 = some v8 ∧ Below B w w2 := by
  obtain ⟨h0, h1, h2, h3, h4, h5, h6, h7, h8, hh⟩ := h
  have k : ∀ {A : Addr} {v : Value}, w1.cell? A = some v → w2.cell? A = some v := fun {A v} h => (hb.cell (World.block_lt_of_cell? w1 _ h)).trans h
  exact ⟨k h0, k h1, k h2, k h3, k h4, k h5, k h6, k h7, k h8, hh.trans (hb.mono (Nat.le_trans hB hh.size))⟩
theorem keeps9 {w1 w2 : World} {p : World → Prop} {A0 A1 A2 A3 A4 A5 A6 A7 A8 : Addr} {v0 v1 v2 v3 v4 v5 v6 v7 v8 : Value} (h : w1.cell? A0 = some v0 ∧ w1.cell? A1 = some v1 ∧ w1.cell? A2 = some v2 ∧ w1.cell? A3 = some v3 ∧ w1.cell? A4 = some v4 ∧ w1.cell? A5 = some v5 ∧ w1.cell? A6 = some v6 ∧ w1.cell? A7 = some v7 ∧ w1.cell? A8 = some v8 ∧ p w1) (hb : Below w1.heap.size w1 w2) (hp : p w1 → Below w1.heap.size w1 w2 → p w2) : w2.cell? A0 = some v0 ∧ w2.cell? A1 = some v1 ∧ w2.cell? A2 = some v2 ∧ w2.cell? A3 = some v3 ∧ w2.cell? A4 = some v4 ∧ w2.cell? A5 = some v5 ∧ w2.cell? A6 = some v6 ∧ w2.cell? A7 = some v7 ∧ w2.cell? A8 = some v8 ∧ p w2 := by
  obtain ⟨h0, h1, h2, h3, h4, h5, h6, h7, h8, hh⟩ := h
  have k : ∀ {A : Addr} {v : Value}, w1.cell? A = some v → w2.cell? A = some v := fun {A v} h => (hb.cell (World.block_lt_of_cell? w1 _ h)).trans h
  exact ⟨k h0, k h1, k h2, k h3, k h4, k h5, k h6, k h7, k h8, hp hh hb⟩
theorem lastk9 {p0 p1 p2 p3 p4 p5 p6 p7 p8 q : Prop} (h : p0 ∧ p1 ∧ p2 ∧ p3 ∧ p4 ∧ p5 ∧ p6 ∧ p7 ∧ p8 ∧ q) : q := h.2.2.2.2.2.2.2.2.2
theorem midk9 {p0 p1 p2 p3 p4 p5 p6 p7 p8 q r : Prop} (h : p0 ∧ p1 ∧ p2 ∧ p3 ∧ p4 ∧ p5 ∧ p6 ∧ p7 ∧ p8 ∧ q ∧ r) : q := h.2.2.2.2.2.2.2.2.2.1
theorem keep10 {w w1 w2 : World} {B : Nat} {A0 A1 A2 A3 A4 A5 A6 A7 A8 A9 : Addr} {v0 v1 v2 v3 v4 v5 v6 v7 v8 v9 : Value} (h : w1.cell? A0 = some v0 ∧ w1.cell? A1 = some v1 ∧ w1.cell? A2 = some v2 ∧ w1.cell? A3 = some v3 ∧ w1.cell? A4 = some v4 ∧ w1.cell? A5 = some v5 ∧ w1.cell? A6 = some v6 ∧ w1.cell? A7 = some v7 ∧ w1.cell? A8 = some v8 ∧ w1.cell? A9 = some v9 ∧ Below B w w1) (hb : Below w1.heap.size w1 w2) (hB : B ≤ w.heap.size) : w2.cell? A0 = some v0 ∧ w2.cell? A1 = some v1 ∧ w2.cell? A2 = some v2 ∧ w2.cell? A3 = some v3 ∧ w2.cell? A4 = some v4 ∧ w2.cell? A5 = some v5 ∧ w2.cell? A6 = some v6 ∧ w2.cell? A7 = some v7 ∧ w2.cell? A8 = some v8 ∧ w2.cell? A9 = some v9 ∧ Below B w w2 := by
  obtain ⟨h0, h1, h2, h3, h4, h5, h6, h7, h8, h9, hh⟩ := h
  have k : ∀ {A : Addr} {v : Value}, w1.cell? A = some v → w2.cell? A = some v := fun {A v} h => (hb.cell (World.block_lt_of_cell? w1 _ h)).trans h
  exact ⟨k h0, k h1, k h2, k h3, k h4, k h5, k h6, k h7, k h8, k h9, hh.trans (hb.mono (Nat.le_trans hB hh.size))⟩
theorem keeps10 {w1 w2 : World} {p : World → Prop} {A0 A1 A2 A3 A4 A5 A6 A7 A8 A9 : Addr} {v0 v1 v2 v3 v4 v5 v6 v7 v8 v9 : Value} (h : w1.cell? A0 = some v0 ∧ w1.cell? A1 = some v1 ∧ w1.cell? A2 = some v2 ∧ w1.cell? A3 = some v3 ∧ w1.cell? A4 = some v4 ∧ w1.cell? A5 = some v5 ∧ w1.cell? A6 = some v6 ∧ w1.cell? A7 = some v7 ∧ w1.cell? A8 = some v8 ∧ w1.cell? A9 = some v9 ∧ p w1) (hb : Below w1.heap.size w1 w2) (hp : p w1 → Below w1.heap.size w1 w2 → p w2) : w2.cell? A0 = some v0 ∧ w2.cell? A1 = some v1 ∧ w2.cell? A2 = some v2 ∧ w2.cell? A3 = some v3 ∧ w2.cell? A4 = some v4 ∧ w2.cell? A5 = some v5 ∧ w2.cell? A6 = some v6 ∧ w2.cell? A7 = some v7 ∧ w2.cell? A8 = some v8 ∧ w2.cell? A9 = some v9 ∧ p w2 := by
  obtain ⟨h0, h1, h2, h3, h4, h5, h6, h7, h8, h9, hh⟩ := h
  have k : ∀ {A : Addr} {v : Value}, w1.cell? A = some v → w2.cell? A = some v := fun {A v} h => (hb.cell (World.block_lt_of_cell? w1 _ h)).trans h
  exact ⟨k h0, k h1, k h2, k h3, k h4, k h5, k h6, k h7, k h8, k h9, hp hh hb⟩
theorem lastk10 {p0 p1 p2 p3 p4 p5 p6 p7 p8 p9 q : Prop} (h : p0 ∧ p1 ∧ p2 ∧ p3 ∧ p4 ∧ p5 ∧ p6 ∧ p7 ∧ p8 ∧ p9 ∧ q) : q := h.2.2.2.2.2.2.2.2.2.2
theorem midk10 {p0 p1 p2 p3 p4 p5 p6 p7 p8 p9 q r : Prop} (h : p0 ∧ p1 ∧ p2 ∧ p3 ∧ p4 ∧ p5 ∧ p6 ∧ p7 ∧ p8 ∧ p9 ∧ q ∧ r) : q := h.2.2.2.2.2.2.2.2.2.2.1
theorem keep11 {w w1 w2 : World} {B : Nat} {A0 A1 A2 A3 A4 A5 A6 A7 A8 A9 A10 : Addr} {v0 v1 v2 v3 v4 v5 v6 v7 v8 v9 v10 : Value} (h : w1.cell? A0 = some v0 ∧ w1.cell? A1 = some v1 ∧ w1.cell? A2 = some v2 ∧ w1.cell? A3 = some v3 ∧ w1.cell? A4 = some v4 ∧ w1.cell? A5 = some v5 ∧ w1.cell? A6 = some v6 ∧ w1.cell? A7 = some v7 ∧ w1.cell? A8 = some v8 ∧ w1.cell? A9 = some v9 ∧ w1.cell? A10 = some v10 ∧ Below B w w1) (hb : Below w1.heap.size w1 w2) (hB : B ≤ w.heap.size) : w2.cell? A0 = some v0 ∧ w2.cell? A1 = some v1 ∧ w2.cell? A2 = some v2 ∧ w2.cell? A3 = some v3 ∧ w2.cell? A4 = some v4 ∧ w2.cell? A5 = some v5 ∧ w2.cell? A6 = some v6 ∧ w2.cell? A7 = some v7 ∧ w2.cell? A8 = some v8 ∧ w2.cell? A9 = some v9 ∧ w2.cell? A10 = some v10 ∧ Below B w w2 := by
  obtain ⟨h0, h1, h2, h3, h4, h5, h6, h7, h8, h9, h10, hh⟩ := h
  have k : ∀ {A : Addr} {v : Value}, w1.cell? A = some v → w2.cell? A = some v := fun {A v} h => (hb.cell (World.block_lt_of_cell? w1 _ h)).trans h
  exact ⟨k h0, k h1, k h2, k h3, k h4, k h5, k h6, k h7, k h8, k h9, k h10, hh.trans (hb.mono (Nat.le_trans hB hh.size))⟩
theorem keeps11 {w1 w2 : World} {p : World → Prop} {A0 A1 A2 A3 A4 A5 A6 A7 A8 A9 A10 : Addr} {v0 v1 v2 v3 v4 v5 v6 v7 v8 v9 v10 : Value} (h : w1.cell? A0 = some v0 ∧ w1.cell? A1 = some v1 ∧ w1.cell? A2 = some v2 ∧ w1.cell? A3 = some v3 ∧ w1.cell? A4 = some v4 ∧ w1.cell? A5 = some v5 ∧ w1.cell? A6 = some v6 ∧ w1.cell? A7 = some v7 ∧ w1.cell? A8 = some v8 ∧ w1.cell? A9 = some v9 ∧ w1.cell? A10 = some v10 ∧ p w1) (hb : Below w1.heap.size w1 w2) (hp : p w1 → Below w1.heap.size w1 w2 → p w2) : w2.cell? A0 = some v0 ∧ w2.cell? A1 = some v1 ∧ w2.cell? A2 = some v2 ∧ w2.cell? A3 = some v3 ∧ w2.cell? A4 = some v4 ∧ w2.cell? A5 = some v5 ∧ w2.cell? A6 = some v6 ∧ w2.cell? A7 = some v7 ∧ w2.cell? A8 = some v8 ∧ w2.cell? A9 = some v9 ∧ w2.cell? A10 = some v10 ∧ p w2 := by
  obtain ⟨h0, h1, h2, h3, h4, h5, h6, h7, h8, h9, h10, hh⟩ := h
  have k : ∀ {A : Addr} {v : Value}, w1.cell? A = some v → w2.cell? A = some v := fun {A v} h => (hb.cell (World.block_lt_of_cell? w1 _ h)).trans h
  exact ⟨k h0, k h1, k h2, k h3, k h4, k h5, k h6, k h7, k h8, k h9, k h10, hp hh hb⟩
theorem lastk11 {p0 p1 p2 p3 p4 p5 p6 p7 p8 p9 p10 q : Prop} (h : p0 ∧ p1 ∧ p2 ∧ p3 ∧ p4 ∧ p5 ∧ p6 ∧ p7 ∧ p8 ∧ p9 ∧ p10 ∧ q) : q := h.2.2.2.2.2.2.2.2.2.2.2
theorem midk11 {p0 p1 p2 p3 p4 p5 p6 p7 p8 p9 p10 q r : Prop} (h : p0 ∧ p1 ∧ p2 ∧ p3 ∧ p4 ∧ p5 ∧ p6 ∧ p7 ∧ p8 ∧ p9 ∧ p10 ∧ q ∧ r) : q := h.2.2.2.2.2.2.2.2.2.2.2.1
theorem keep12 {w w1 w2 : World} {B : Nat} {A0 A1 A2 A3 A4 A5 A6 A7 A8 A9 A10 A11 : Addr} {v0 v1 v2 v3 v4 v5 v6 v7 v8 v9 v10 v11 : Value} (h : w1.cell? A0 = some v0 ∧ w1.cell? A1 = some v1 ∧ w1.cell? A2 = some v2 ∧ w1.cell? A3 = some v3 ∧ w1.cell? A4 = some v4 ∧ w1.cell? A5 = some v5 ∧ w1.cell? A6 = some v6 ∧ w1.cell? A7 = some v7 ∧ w1.cell? A8 = some v8 ∧ w1.cell? A9 = some v9 ∧ w1.cell? A10 = some v10 ∧ w1.cell? A11 = some v11 ∧ Below B w w1) (hb : Below w1.heap.size w1 w2) (hB : B ≤ w.heap.size) : w2.cell? A0 = some v0 ∧ w2.cell? A1 = some v1 ∧ w2.cell? A2 = some v2 ∧ w2.cell? A3 = some v3 ∧ w2.cell? A4 = some v4 ∧ w2.cell? A5 = some v5 ∧ w2.cell? A6 = some v6 ∧ w2.cell? A7 = some v7 ∧ w2.cell? A8 = some v8 ∧ w2.cell? A9 = some v9 ∧ w2.cell? A10 = some v10 ∧ w2.cell? A11 = some v11 ∧ Below B w w2 := by
  obtain ⟨h0, h1, h2, h3, h4, h5, h6, h7, h8, h9, h10, h11, hh⟩ := h
  have k : ∀ {A : Addr} {v : Value}, w1.cell? A = some v → w2.cell? A = some v := fun {A v} h => (hb.cell (World.block_lt_of_cell? w1 _ h)).trans h
  exact ⟨k h0, k h1, k h2, k h3, k h4, k h5, k h6, k h7, k h8, k h9, k h10, k h11, hh.trans (hb.mono (Nat.le_trans hB hh.size))⟩
theorem keeps12 {w1 w2 : World} {p : World → Prop} {A0 A1 A2 A3 A4 A5 A6 A7 A8 A9 A10 A11 : Addr} {v0 v1 v2 v3 v4 v5 v6 v7 v8 v9 v10 v11 : Value} (h : w1.cell? A0 = some v0 ∧ w1.cell? A1 = some v1 ∧ w1.cell? A2 = some v2 ∧ w1.cell? A3 = some v3 ∧ w1.cell? A4 = some v4 ∧ w1.cell? A5 = some v5 ∧ w1.cell? A6 = some v6 ∧ w1.cell? A7 = some v7 ∧ w1.cell? A8 = some v8 ∧ w1.cell? A9 = some v9 ∧ w1.cell? A10 = some v10 ∧ w1.cell? A11 = some v11 ∧ p w1) (hb : Below w1.heap.size w1 w2) (hp : p w1 → Below w1.heap.size w1 w2 → p w2) : w2.cell? A0 = some v0 ∧ w2.cell? A1 = some v1 ∧ w2.cell? A2 = some v2 ∧ w2.cell? A3 = some v3 ∧ w2.cell? A4 = some v4 ∧ w2.cell? A5 = some v5 ∧ w2.cell? A6 = some v6 ∧ w2.cell? A7 = some v7 ∧ w2.cell? A8 = some v8 ∧ w2.cell? A9 = some v9 ∧ w2.cell? A10 = some v10 ∧ w2.cell? A11 = some v11 ∧ p w2 := by
  obtain ⟨h0, h1, h2, h3, h4, h5, h6, h7, h8, h9, h10, h11, hh⟩ := h
  have k : ∀ {A : Addr} {v : Value}, w1.cell? A = some v → w2.cell? A = some v := fun {A v} h => (hb.cell (World.block_lt_of_cell? w1 _ h)).trans h
  exact ⟨k h0, k h1, k h2, k h3, k h4, k h5, k h6, k h7, k h8, k h9, k h10, k h11, hp hh hb⟩
theorem lastk12 {p0 p1 p2 p3 p4 p5 p6 p7 p8 p9 p10 p11 q : Prop} (h : p0 ∧ p1 ∧ p2 ∧ p3 ∧ p4 ∧ p5 ∧ p6 ∧ p7 ∧ p8 ∧ p9 ∧ p10 ∧ p11 ∧ q) : q := h.2.2.2.2.2.2.2.2.2.2.2.2
theorem midk12 {p0 p1 p2 p3 p4 p5 p6 p7 p8 p9 p10 p11 q r : Prop} (h : p0 ∧ p1 ∧ p2 ∧ p3 ∧ p4 ∧ p5 ∧ p6 ∧ p7 ∧ p8 ∧ p9 ∧ p10 ∧ p11 ∧ q ∧ r) : q := h.2.2.2.2.2.2.2.2.2.2.2.2.1
theorem keep13 {w w1 w2 : World} {B : Nat} {A0 A1 A2 A3 A4 A5 A6 A7 A8 A9 A10 A11 A12 : Addr} {v0 v1 v2 v3 v4 v5 v6 v7 v8 v9 v10 v11 v12 : Value} (h : w1.cell? A0 = some v0 ∧ w1.cell? A1 = some v1 ∧ w1.cell? A2 = some v2 ∧ w1.cell? A3 = some v3 ∧ w1.cell? A4 = some v4 ∧ w1.cell? A5 = some v5 ∧ w1.cell? A6 = some v6 ∧ w1.cell? A7 = some v7 ∧ w1.cell? A8 = some v8 ∧ w1.cell? A9 = some v9 ∧ w1.cell? A10 = some v10 ∧ w1.cell? A11 = some v11 ∧ w1.cell? A12 = some v12 ∧ Below B w w1) (hb : Below w1.heap.size w1 w2) (hB : B ≤ w.heap.size) : w2.cell? A0 = some v0 ∧ w2.cell? A1 = some v1 ∧ w2.cell? A2 = some v2 ∧ w2.cell? A3 = some v3 ∧ w2.cell? A4 = some v4 ∧ w2.cell? A5 = some v5 ∧ w2.cell? A6 = some v6 ∧ w2.cell? A7 = some v7 ∧ w2.cell? A8 = some v8 ∧ w2.cell? A9 = some v9 ∧ w2.cell? A10 = some v10 ∧ w2.cell? A11 = some v11 ∧ w2.cell? A12 = some v12 ∧ Below B w w2 := by
  obtain ⟨h0, h1, h2, h3, h4, h5, h6, h7, h8, h9, h10, h11, h12, hh⟩ := h
  have k : ∀ {A : Addr} {v : Value}, w1.cell? A = some v → w2.cell? A = some v := fun {A v} h => (hb.cell (World.block_lt_of_cell? w1 _ h)).trans h
  exact ⟨k h0, k h1, k h2, k h3, k h4, k h5, k h6, k h7, k h8, k h9, k h10, k h11, k h12, hh.trans (hb.mono (Nat.le_trans hB hh.size))⟩
theorem keeps13 {w1 w2 : World} {p : World → Prop} {A0 A1 A2 A3 A4 A5 A6 A7 A8 A9 A10 A11 A12 : Addr} {v0 v1 v2 v3 v4 v5 v6 v7 v8 v9 v10 v11 v12 : Value} (h : w1.cell? A0 = some v0 ∧ w1.cell? A1 = some v1 ∧ w1.cell? A2 = some v2 ∧ w1.cell? A3 = some v3 ∧ w1.cell? A4 = some v4 ∧ w1.cell? A5 = some v5 ∧ w1.cell? A6 = some v6 ∧ w1.cell? A7 = some v7 ∧ w1.cell? A8 = some v8 ∧ w1.cell? A9 = some v9 ∧ w1.cell? A10 = some v10 ∧ w1.cell? A11 = some v11 ∧ w1.cell? A12 = some v12 ∧ p w1) (hb : Below w1.heap.size w1 w2) (hp : p w1 → Below w1.heap.size w1 w2 → p w2) : w2.cell? A0 = some v0 ∧ w2.cell? A1 = some v1 ∧ w2.cell? A2 = some v2 ∧ w2.cell? A3 = some v3 ∧ w2.cell? A4 = some v4 ∧ w2.cell? A5 = some v5 ∧ w2.cell? A6 = some v6 ∧ w2.cell? A7 = some v7 ∧ w2.cell? A8 = some v8 ∧ w2.cell? A9 = some v9 ∧ w2.cell? A10 = some v10 ∧ w2.cell? A11 = some v11 ∧ w2.cell? A12 = some v12 ∧ p w2 := by
  obtain ⟨h0, h1, h2, h3, h4, h5, h6, h7, h8, h9, h10, h11, h12, hh⟩ := h
  have k : ∀ {A : Addr} {v : Value}, w1.cell? A = some v → w2.cell? A = some v := fun {A v} h => (hb.cell (World.block_lt_of_cell? w1 _ h)).trans h
  exact ⟨k h0, k h1, k h2, k h3, k h4, k h5, k h6, k h7, k h8, k h9, k h10, k h11, k h12, hp hh hb⟩
theorem lastk13 {p0 p1 p2 p3 p4 p5 p6 p7 p8 p9 p10 p11 p12 q : Prop} (h : p0 ∧ p1 ∧ p2 ∧ p3 ∧ p4 ∧ p5 ∧ p6 ∧ p7 ∧ p8 ∧ p9 ∧ p10 ∧ p11 ∧ p12 ∧ q) : q := h.2.2.2.2.2.2.2.2.2.2.2.2.2
theorem midk13 {p0 p1 p2 p3 p4 p5 p6 p7 p8 p9 p10 p11 p12 q r : Prop} (h : p0 ∧ p1 ∧ p2 ∧ p3 ∧ p4 ∧ p5 ∧ p6 ∧ p7 ∧ p8 ∧ p9 ∧ p10 ∧ p11 ∧ p12 ∧ q ∧ r) : q := h.2.2.2.2.2.2.2.2.2.2.2.2.2.1
theorem keep14 {w w1 w2 : World} {B : Nat} {A0 A1 A2 A3 A4 A5 A6 A7 A8 A9 A10 A11 A12 A13 : Addr} {v0 v1 v2 v3 v4 v5 v6 v7 v8 v9 v10 v11 v12 v13 : Value} (h : w1.cell? A0 = some v0 ∧ w1.cell? A1 = some v1 ∧ w1.cell? A2 = some v2 ∧ w1.cell? A3 = some v3 ∧ w1.cell? A4 = some v4 ∧ w1.cell? A5 = some v5 ∧ w1.cell? A6 = some v6 ∧ w1.cell? A7 = some v7 ∧ w1.cell? A8 = some v8 ∧ w1.cell? A9 = some v9 ∧ w1.cell? A10 = some v10 ∧ w1.cell? A11 = some v11 ∧ w1.cell? A12 = some v12 ∧ w1.cell? A13 = some v13 ∧ Below B w w1) (hb : Below w1.heap.size w1 w2) (hB : B ≤ w.heap.size) : w2.cell? A0 = some v0 ∧ w2.cell? A1 = some v1 ∧ w2.cell? A2 = some v2 ∧ w2.cell? A3 = some v3 ∧ w2.cell? A4 = some v4 ∧ w2.cell? A5 = some v5 ∧ w2.cell? A6 = some v6 ∧ w2.cell? A7 = some v7 ∧ w2.cell? A8 = some v8 ∧ w2.cell? A9 = some v9 ∧ w2.cell? A10 = some v10 ∧ w2.cell? A11 = some v11 ∧ w2.cell? A12 = some v12 ∧ w2.cell? A13 = some v13 ∧ Below B w w2 := by
  obtain ⟨h0, h1, h2, h3, h4, h5, h6, h7, h8, h9, h10, h11, h12, h13, hh⟩ := h
  have k : ∀ {A : Addr} {v : Value}, w1.cell? A = some v → w2.cell? A = some v := fun {A v} h => (hb.cell (World.block_lt_of_cell? w1 _ h)).trans h
  exact ⟨k h0, k h1, k h2, k h3, k h4, k h5, k h6, k h7, k h8, k h9, k h10, k h11, k h12, k h13, hh.trans (hb.mono (Nat.le_trans hB hh.size))⟩
theorem keeps14 {w1 w2 : World} {p : World → Prop} {A0 A1 A2 A3 A4 A5 A6 A7 A8 A9 A10 A11 A12 A13 : Addr} {v0 v1 v2 v3 v4 v5 v6 v7 v8 v9 v10 v11 v12 v13 : Value} (h : w1.cell? A0 = some v0 ∧ w1.cell? A1 = some v1 ∧ w1.cell? A2 = some v2 ∧ w1.cell? A3 = some v3 ∧ w1.cell? A4 = some v4 ∧ w1.cell? A5 = some v5 ∧ w1.cell? A6 = some v6 ∧ w1.cell? A7 = some v7 ∧ w1.cell? A8 = some v8 ∧ w1.cell? A9 = some v9 ∧ w1.cell? A10 = some v10 ∧ w1.cell? A11 = some v11 ∧ w1.cell? A12 = some v12 ∧ w1.cell? A13 = some v13 ∧ p w1) (hb : Below w1.heap.size w1 w2) (hp : p w1 → Below w1.heap.size w1 w2 → p w2) : w2.cell? A0 = some v0 ∧ w2.cell? A1 = some v1 ∧ w2.cell? A2 = some v2 ∧ w2.cell? A3 = some v3 ∧ w2.cell? A4 = some v4 ∧ w2.cell? A5 = some v5 ∧ w2.cell? A6 = some v6 ∧ w2.cell? A7 = some v7 ∧ w2.cell? A8 = some v8 ∧ w2.cell? A9 = some v9 ∧ w2.cell? A10 = some v10 ∧ w2.cell? A11 = some v11 ∧ w2.cell? A12 = some v12 ∧ w2.cell? A13 = some v13 ∧ p w2 := by
  obtain ⟨h0, h1, h2, h3, h4, h5, h6, h7, h8, h9, h10, h11, h12, h13, hh⟩ := h
  have k : ∀ {A : Addr} {v : Value}, w1.cell? A = some v → w2.cell? A = some v := fun {A v} h => (hb.cell (World.block_lt_of_cell? w1 _ h)).trans h
  exact ⟨k h0, k h1, k h2, k h3, k h4, k h5, k h6, k h7, k h8, k h9, k h10, k h11, k h12, k h13, hp hh hb⟩
theorem lastk14 {p0 p1 p2 p3 p4 p5 p6 p7 p8 p9 p10 p11 p12 p13 q : Prop} (h : p0 ∧ p1 ∧ p2 ∧ p3 ∧ p4 ∧ p5 ∧ p6 ∧ p7 ∧ p8 ∧ p9 ∧ p10 ∧ p11 ∧ p12 ∧ p13 ∧ q) : q := h.2.2.2.2.2.2.2.2.2.2.2.2.2.2
theorem midk14 {p0 p1 p2 p3 p4 p5 p6 p7 p8 p9 p10 p11 p12 p13 q r : Prop} (h : p0 ∧ p1 ∧ p2 ∧ p3 ∧ p4 ∧ p5 ∧ p6 ∧ p7 ∧ p8 ∧ p9 ∧ p10 ∧ p11 ∧ p12 ∧ p13 ∧ q ∧ r) : q := h.2.2.2.2.2.2.2.2.2.2.2.2.2.2.1
theorem keep15 {w w1 w2 : World} {B : Nat} {A0 A1 A2 A3 A4 A5 A6 A7 A8 A9 A10 A11 A12 A13 A14 : Addr} {v0 v1 v2 v3 v4 v5 v6 v7 v8 v9 v10 v11 v12 v13 v14 : Value} (h : w1.cell? A0 = some v0 ∧ w1.cell? A1 = some v1 ∧ w1.cell? A2 = some v2 ∧ w1.cell? A3 = some v3 ∧ w1.cell? A4 = some v4 ∧ w1.cell? A5 = some v5 ∧ w1.cell? A6 = some v6 ∧ w1.cell? A7 = some v7 ∧ w1.cell? A8 = some v8 ∧ w1.cell? A9 = some v9 ∧ w1.cell? A10 = some v10 ∧ w1.cell? A11 = some v11 ∧ w1.cell? A12 = some v12 ∧ w1.cell? A13 = some v13 ∧ w1.cell? A14 = some v14 ∧ Below B w w1) (hb : Below w1.heap.size w1 w2) (hB : B ≤ w.heap.size) : w2.cell? A0 = some v0 ∧ w2.cell? A1 = some v1 ∧ w2.cell? A2 = some v2 ∧ w2.cell? A3 = some v3 ∧ w2.cell? A4 = some v4 ∧ w2.cell? A5 = some v5 ∧ w2.cell? A6 = some v6 ∧ w2.cell? A7 = some v7 ∧ w2.cell? A8 = some v8 ∧ w2.cell? A9 = some v9 ∧ w2.cell? A10 = some v10 ∧ w2.cell? A11 = some v11 ∧ w2.cell? A12 = some v12 ∧ w2.cell? A13 = some v13 ∧ w2.cell? A14 = some v14 ∧ Below B w w2 := by
  obtain ⟨h0, h1, h2, h3, h4, h5, h6, h7, h8, h9, h10, h11, h12, h13, h14, hh⟩ := h
  have k : ∀ {A : Addr} {v : Value}, w1.cell? A = some v → w2.cell? A = some v := fun {A v} h => (hb.cell (World.block_lt_of_cell? w1 _ h)).trans h
  exact ⟨k h0, k h1, k h2, k h3, k h4, k h5, k h6, k h7, k h8, k h9, k h10, k h11, k h12, k h13, k h14, hh.trans (hb.mono (Nat.le_trans hB hh.size))⟩
theorem keeps15 {w1 w2 : World} {p : World → Prop} {A0 A1 A2 A3 A4 A5 A6 A7 A8 A9 A10 A11 A12 A13 A14 : Addr} {v0 v1 v2 v3 v4 v5 v6 v7 v8 v9 v10 v11 v12 v13 v14 : Value} (h : w1.cell? A0 = some v0 ∧ w1.cell? A1 = some v1 ∧ w1.cell? A2 = some v2 ∧ w1.cell? A3 = some v3 ∧ w1.cell? A4 = some v4 ∧ w1.cell? A5 = some v5 ∧ w1.cell? A6 = some v6 ∧ w1.cell? A7 = some v7 ∧ w1.cell? A8 = some v8 ∧ w1.cell? A9 = some v9 ∧ w1.cell? A10 = some v10 ∧ w1.cell? A11 = some v11 ∧ w1.cell? A12 = some v12 ∧ w1.cell? A13 = some v13 ∧ w1.cell? A14 = some v14 ∧ p w1) (hb : Below w1.heap.size w1 w2) (hp : p w1 → Below w1.heap.size w1 w2 → p w2) : w2.cell? A0 = some v0 ∧ w2.cell? A1 = some v1 ∧ w2.cell? A2 = some v2 ∧ w2.cell? A3 = some v3 ∧ w2.cell? A4 = some v4 ∧ w2.cell? A5 = some v5 ∧ w2.cell? A6 = some v6 ∧ w2.cell? A7 = some v7 ∧ w2.cell? A8 = some v8 ∧ w2.cell? A9 = some v9 ∧ w2.cell? A10 = some v10 ∧ w2.cell? A11 = some v11 ∧ w2.cell? A12 = some v12 ∧ w2.cell? A13 = some v13 ∧ w2.cell? A14 = some v14 ∧ p w2 := by
  obtain ⟨h0, h1, h2, h3, h4, h5, h6, h7, h8, h9, h10, h11, h12, h13, h14, hh⟩ := h
  have k : ∀ {A : Addr} {v : Value}, w1.cell? A = some v → w2.cell? A = some v := fun {A v} h => (hb.cell (World.block_lt_of_cell? w1 _ h)).trans h
  exact ⟨k h0, k h1, k h2, k h3, k h4, k h5, k h6, k h7, k h8, k h9, k h10, k h11, k h12, k h13, k h14, hp hh hb⟩
theorem lastk15 {p0 p1 p2 p3 p4 p5 p6 p7 p8 p9 p10 p11 p12 p13 p14 q : Prop} (h : p0 ∧ p1 ∧ p2 ∧ p3 ∧ p4 ∧ p5 ∧ p6 ∧ p7 ∧ p8 ∧ p9 ∧ p10 ∧ p11 ∧ p12 ∧ p13 ∧ p14 ∧ q) : q := h.2.2.2.2.2.2.2.2.2.2.2.2.2.2.2
theorem midk15 {p0 p1 p2 p3 p4 p5 p6 p7 p8 p9 p10 p11 p12 p13 p14 q r : Prop} (h : p0 ∧ p1 ∧ p2 ∧ p3 ∧ p4 ∧ p5 ∧ p6 ∧ p7 ∧ p8 ∧ p9 ∧ p10 ∧ p11 ∧ p12 ∧ p13 ∧ p14 ∧ q ∧ r) : q := h.2.2.2.2.2.2.2.2.2.2.2.2.2.2.2.1
theorem keep16 {w w1 w2 : World} {B : Nat} {A0 A1 A2 A3 A4 A5 A6 A7 A8 A9 A10 A11 A12 A13 A14 A15 : Addr} {v0 v1 v2 v3 v4 v5 v6 v7 v8 v9 v10 v11 v12 v13 v14 v15 : Value} (h : w1.cell? A0 = some v0 ∧ w1.cell? A1 = some v1 ∧ w1.cell? A2 = some v2 ∧ w1.cell? A3 = some v3 ∧ w1.cell? A4 = some v4 ∧ w1.cell? A5 = some v5 ∧ w1.cell? A6 = some v6 ∧ w1.cell? A7 = some v7 ∧ w1.cell? A8 = some v8 ∧ w1.cell? A9 = some v9 ∧ w1.cell? A10 = some v10 ∧ w1.cell? A11 = some v11 ∧ w1.cell? A12 = some v12 ∧ w1.cell? A13 = some v13 ∧ w1.cell? A14 = some v14 ∧ w1.cell? A15 = some v15 ∧ Below B w w1) (hb : Below w1.heap.size w1 w2) (hB : B ≤ w.heap.size) : w2.cell? A0 = some v0 ∧ w2.cell? A1 = some v1 ∧ w2.cell? A2 = some v2 ∧ w2.cell? A3 = some v3 ∧ w2.cell? A4 = some v4 ∧ w2.cell? A5 = some v5 ∧ w2.cell? A6 = some v6 ∧ w2.cell? A7 = some v7 ∧ w2.cell? A8 = some v8 ∧ w2.cell? A9 = some v9 ∧ w2.cell? A10 = some v10 ∧ w2.cell? A11 = some v11 ∧ w2.cell? A12 = some v12 ∧ w2.cell? A13 = some v13 ∧ w2.cell? A14 = some v14 ∧ w2.cell? A15 = some v15 ∧ Below B w w2 := by
  obtain ⟨h0, h1, h2, h3, h4, h5, h6, h7, h8, h9, h10, h11, h12, h13, h14, h15, hh⟩ := h
  have k : ∀ {A : Addr} {v : Value}, w1.cell? A = some v → w2.cell? A = some v := fun {A v} h => (hb.cell (World.block_lt_of_cell? w1 _ h)).trans h
  exact ⟨k h0, k h1, k h2, k h3, k h4, k h5, k h6, k h7, k h8, k h9, k h10, k h11, k h12, k h13, k h14, k h15, hh.trans (hb.mono (Nat.le_trans hB hh.size))⟩
theorem keeps16 {w1 w2 : World} {p : World → Prop} {A0 A1 A2 A3 A4 A5 A6 A7 A8 A9 A10 A11 A12 A13 A14 A15 : Addr} {v0 v1 v2 v3 v4 v5 v6 v7 v8 v9 v10 v11 v12 v13 v14 v15 : Value} (h : w1.cell? A0 = some v0 ∧ w1.cell? A1 = some v1 ∧ w1.cell? A2 = some v2 ∧ w1.cell? A3 = some v3 ∧ w1.cell? A4 = some v4 ∧ w1.cell? A5 = some v5 ∧ w1.cell? A6 = some v6 ∧ w1.cell? A7 = some v7 ∧ w1.cell? A8 = some v8 ∧ w1.cell? A9 = some v9 ∧ w1.cell? A10 = some v10 ∧ w1.cell? A11 = some v11 ∧ w1.cell? A12 = some v12 ∧ w1.cell? A13 = some v13 ∧ w1.cell? A14 = some v14 ∧ w1.cell? A15 = some v15 ∧ p w1) (hb : Below w1.heap.size w1 w2) (hp : p w1 → Below w1.heap.size w1 w2 → p w2) : w2.cell? A0 = some v0 ∧ w2.cell? A1 = some v1 ∧ w2.cell? A2 = some v2 ∧ w2.cell? A3 = some v3 ∧ w2.cell? A4 = some v4 ∧ w2.cell? A5 = some v5 ∧ w2.cell? A6 = some v6 ∧ w2.cell? A7 = some v7 ∧ w2.cell? A8 = some v8 ∧ w2.cell? A9 = some v9 ∧ w2.cell? A10 = some v10 ∧ w2.cell? A11 = some v11 ∧ w2.cell? A12 = some v12 ∧ w2.cell? A13 = some v13 ∧ w2.cell? A14 = some v14 ∧ w2.cell? A15 = some v15 ∧ p w2 := by
  obtain ⟨h0, h1, h2, h3, h4, h5, h6, h7, h8, h9, h10, h11, h12, h13, h14, h15, hh⟩ := h
  have k : ∀ {A : Addr} {v : Value}, w1.cell? A = some v → w2.cell? A = some v := fun {A v} h => (hb.cell (World.block_lt_of_cell? w1 _ h)).trans h
  exact ⟨k h0, k h1, k h2, k h3, k h4, k h5, k h6, k h7, k h8, k h9, k h10, k h11, k h12, k h13, k h14, k h15, hp hh hb⟩
theorem lastk16 {p0 p1 p2 p3 p4 p5 p6 p7 p8 p9 p10 p11 p12 p13 p14 p15 q : Prop} (h : p0 ∧ p1 ∧ p2 ∧ p3 ∧ p4 ∧ p5 ∧ p6 ∧ p7 ∧ p8 ∧ p9 ∧ p10 ∧ p11 ∧ p12 ∧ p13 ∧ p14 ∧ p15 ∧ q) : q := h.2.2.2.2.2.2.2.2.2.2.2.2.2.2.2.2
theorem midk16 {p0 p1 p2 p3 p4 p5 p6 p7 p8 p9 p10 p11 p12 p13 p14 p15 q r : Prop} (h : p0 ∧ p1 ∧ p2 ∧ p3 ∧ p4 ∧ p5 ∧ p6 ∧ p7 ∧ p8 ∧ p9 ∧ p10 ∧ p11 ∧ p12 ∧ p13 ∧ p14 ∧ p15 ∧ q ∧ r) : q := h.2.2.2.2.2.2.2.2.2.2.2.2.2.2.2.2.1
end Mem
end Go
end
