/- Values that come in: structs of integers by value, integers in their ranges. No program is named here. -/
import Derived.WalkKit
import Derived.ProofKit
import Derived.WideShapes
namespace Go
open Go.ChangeShapes Go.WideShapes Go.ChangeAt Go.RowKit
namespace Mem
theorem has_u64 {n : Int} (h : IntKind.u64.has n) : ∃ k : Nat, n = k ∧ k < 18446744073709551616 := by
  obtain ⟨h1, h2⟩ := h
  have a : (0 : Int) ≤ n := h1
  have b : n ≤ 18446744073709551615 := h2
  exact ⟨n.toNat, by omega, by omega⟩
theorem has_i64 {n : Int} (h : IntKind.i64.has n) : -9223372036854775808 ≤ n ∧ n ≤ 9223372036854775807 := h
theorem has_i32 {n : Int} (h : IntKind.i32.has n) : -2147483648 ≤ n ∧ n ≤ 2147483647 := h
theorem has_u8 {n : Int} (h : IntKind.u8.has n) : 0 ≤ n ∧ n ≤ 255 := h
theorem has_wf {k : IntKind} {n : Int} (h : (Lit.int k n).wf = true) : k.has n := by
  simp only [Lit.wf, Bool.and_eq_true, decide_eq_true_eq] at h
  exact h
theorem cell_int {P : Program} {w : World} {r : Reach} {base : Nat} {t : TypeId} {k : IntKind} {v : Value} (ht : P.underlying t = some (.int k)) (h : Cell.okWide P w r base t v) : ∃ a, v = .int k a ∧ k.has a := by
  simp only [Cell.okWide, ht] at h
  cases v <;> simp_all [Cell.ok]
theorem cell_bool {P : Program} {w : World} {r : Reach} {base : Nat} {t : TypeId} {v : Value} (ht : P.underlying t = some .bool) (h : Cell.okWide P w r base t v) : ∃ a, v = .bool a := by
  simp only [Cell.okWide, ht] at h
  cases v <;> simp_all [Cell.ok]
theorem cell_string {P : Program} {w : World} {r : Reach} {base : Nat} {t : TypeId} {v : Value} (ht : P.underlying t = some .string) (h : Cell.okWide P w r base t v) : ∃ a, v = .string a := by
  simp only [Cell.okWide, ht] at h
  cases v <;> simp_all [Cell.ok]
theorem ok_cells {P : Program} {w : World} {r : Reach} {base : Nat} {t : TypeId} {v : Value} {d : TypeDesc} {ts : List TypeId} (ht : P.underlying t = some d) (hd : (match d with | .struct _ | .array _ _ => true | _ => false) = true)
    (hts : P.cellTypes P.depth t = some ts) (hc : P.cellsOf t = ts.length) (h : Value.okWide P w r base t v) :
    ∃ cs : Array Value, v = .agg cs ∧ cs.size = ts.length ∧ ∀ (i : Nat) (x : Value), cs[i]? = some x → ∃ u, ts[i]? = some u ∧ Cell.okWide P w r base u x := by
  have key : ∃ cs : Array Value, v = .agg cs ∧ cs.size = P.cellsOf t ∧ ∃ ts, P.cellTypes P.depth t = some ts ∧ (∃ n, cs.size = n * ts.length) ∧ ∀ (i : Nat) (v : Value), cs[i]? = some v → ∃ u, ts[i % ts.length]? = some u ∧ Cell.okWide P w r base u v := by
    cases d <;> simp_all [Value.okWide, Row.okWide]
  obtain ⟨cs, rfl, hs, ts', h1, _, h3⟩ := key
  rw [hts] at h1
  obtain rfl := Option.some.inj h1
  refine ⟨cs, rfl, hs.trans hc, fun i x hx => ?_⟩
  have hi : i < cs.size := (Array.getElem?_eq_some_iff.1 hx).1
  obtain ⟨u, hu, hh⟩ := h3 i x hx
  rw [Nat.mod_eq_of_lt (by omega)] at hu
  exact ⟨u, hu, hh⟩
theorem open_ints1 {P : Program} {w : World} {r : Reach} {base : Nat} {t : TypeId} {v : Value} {d : TypeDesc} {t0 : TypeId} {k0 : IntKind} (ht : P.underlying t = some d) (hd : (match d with | .struct _ | .array _ _ => true | _ => false) = true)
    (hts : P.cellTypes P.depth t = some [t0]) (hc : P.cellsOf t = 1) (u0 : P.underlying t0 = some (.int k0)) (h : Value.okWide P w r base t v) :
    ∃ a0, v = .agg #[.int k0 a0] ∧ k0.has a0 := by
  obtain ⟨cs, rfl, hs, hh⟩ := ok_cells ht hd hts hc h
  obtain ⟨l⟩ := cs
  match l, hs with
  | [x0], _ =>
    obtain ⟨u, hu, hx⟩ := hh 0 x0 (by simp)
    obtain rfl : t0 = u := by simpa using hu
    obtain ⟨a0, rfl, g0⟩ := cell_int u0 hx
    exact ⟨a0, rfl, g0⟩
theorem open_ints2 {P : Program} {w : World} {r : Reach} {base : Nat} {t : TypeId} {v : Value} {d : TypeDesc} {t0 t1 : TypeId} {k0 k1 : IntKind} (ht : P.underlying t = some d) (hd : (match d with | .struct _ | .array _ _ => true | _ => false) = true)
    (hts : P.cellTypes P.depth t = some [t0, t1]) (hc : P.cellsOf t = 2) (u0 : P.underlying t0 = some (.int k0)) (u1 : P.underlying t1 = some (.int k1)) (h : Value.okWide P w r base t v) :
    ∃ a0 a1, v = .agg #[.int k0 a0, .int k1 a1] ∧ k0.has a0 ∧ k1.has a1 := by
  obtain ⟨cs, rfl, hs, hh⟩ := ok_cells ht hd hts hc h
  obtain ⟨l⟩ := cs
  match l, hs with
  | [x0, x1], _ =>
    obtain ⟨u, hu, hx⟩ := hh 0 x0 (by simp)
    obtain rfl : t0 = u := by simpa using hu
    obtain ⟨a0, rfl, g0⟩ := cell_int u0 hx
    obtain ⟨u, hu, hx⟩ := hh 1 x1 (by simp)
    obtain rfl : t1 = u := by simpa using hu
    obtain ⟨a1, rfl, g1⟩ := cell_int u1 hx
    exact ⟨a0, a1, rfl, g0, g1⟩
theorem open_ints3 {P : Program} {w : World} {r : Reach} {base : Nat} {t : TypeId} {v : Value} {d : TypeDesc} {t0 t1 t2 : TypeId} {k0 k1 k2 : IntKind} (ht : P.underlying t = some d) (hd : (match d with | .struct _ | .array _ _ => true | _ => false) = true)
    (hts : P.cellTypes P.depth t = some [t0, t1, t2]) (hc : P.cellsOf t = 3) (u0 : P.underlying t0 = some (.int k0)) (u1 : P.underlying t1 = some (.int k1)) (u2 : P.underlying t2 = some (.int k2)) (h : Value.okWide P w r base t v) :
    ∃ a0 a1 a2, v = .agg #[.int k0 a0, .int k1 a1, .int k2 a2] ∧ k0.has a0 ∧ k1.has a1 ∧ k2.has a2 := by
  obtain ⟨cs, rfl, hs, hh⟩ := ok_cells ht hd hts hc h
  obtain ⟨l⟩ := cs
  match l, hs with
  | [x0, x1, x2], _ =>
    obtain ⟨u, hu, hx⟩ := hh 0 x0 (by simp)
    obtain rfl : t0 = u := by simpa using hu
    obtain ⟨a0, rfl, g0⟩ := cell_int u0 hx
    obtain ⟨u, hu, hx⟩ := hh 1 x1 (by simp)
    obtain rfl : t1 = u := by simpa using hu
    obtain ⟨a1, rfl, g1⟩ := cell_int u1 hx
    obtain ⟨u, hu, hx⟩ := hh 2 x2 (by simp)
    obtain rfl : t2 = u := by simpa using hu
    obtain ⟨a2, rfl, g2⟩ := cell_int u2 hx
    exact ⟨a0, a1, a2, rfl, g0, g1, g2⟩
theorem open_ints4 {P : Program} {w : World} {r : Reach} {base : Nat} {t : TypeId} {v : Value} {d : TypeDesc} {t0 t1 t2 t3 : TypeId} {k0 k1 k2 k3 : IntKind} (ht : P.underlying t = some d) (hd : (match d with | .struct _ | .array _ _ => true | _ => false) = true)
    (hts : P.cellTypes P.depth t = some [t0, t1, t2, t3]) (hc : P.cellsOf t = 4) (u0 : P.underlying t0 = some (.int k0)) (u1 : P.underlying t1 = some (.int k1)) (u2 : P.underlying t2 = some (.int k2)) (u3 : P.underlying t3 = some (.int k3)) (h : Value.okWide P w r base t v) :
    ∃ a0 a1 a2 a3, v = .agg #[.int k0 a0, .int k1 a1, .int k2 a2, .int k3 a3] ∧ k0.has a0 ∧ k1.has a1 ∧ k2.has a2 ∧ k3.has a3 := by
  obtain ⟨cs, rfl, hs, hh⟩ := ok_cells ht hd hts hc h
  obtain ⟨l⟩ := cs
  match l, hs with
  | [x0, x1, x2, x3], _ =>
    obtain ⟨u, hu, hx⟩ := hh 0 x0 (by simp)
    obtain rfl : t0 = u := by simpa using hu
    obtain ⟨a0, rfl, g0⟩ := cell_int u0 hx
    obtain ⟨u, hu, hx⟩ := hh 1 x1 (by simp)
    obtain rfl : t1 = u := by simpa using hu
    obtain ⟨a1, rfl, g1⟩ := cell_int u1 hx
    obtain ⟨u, hu, hx⟩ := hh 2 x2 (by simp)
    obtain rfl : t2 = u := by simpa using hu
    obtain ⟨a2, rfl, g2⟩ := cell_int u2 hx
    obtain ⟨u, hu, hx⟩ := hh 3 x3 (by simp)
    obtain rfl : t3 = u := by simpa using hu
    obtain ⟨a3, rfl, g3⟩ := cell_int u3 hx
    exact ⟨a0, a1, a2, a3, rfl, g0, g1, g2, g3⟩
theorem open_ints5 {P : Program} {w : World} {r : Reach} {base : Nat} {t : TypeId} {v : Value} {d : TypeDesc} {t0 t1 t2 t3 t4 : TypeId} {k0 k1 k2 k3 k4 : IntKind} (ht : P.underlying t = some d) (hd : (match d with | .struct _ | .array _ _ => true | _ => false) = true)
    (hts : P.cellTypes P.depth t = some [t0, t1, t2, t3, t4]) (hc : P.cellsOf t = 5) (u0 : P.underlying t0 = some (.int k0)) (u1 : P.underlying t1 = some (.int k1)) (u2 : P.underlying t2 = some (.int k2)) (u3 : P.underlying t3 = some (.int k3)) (u4 : P.underlying t4 = some (.int k4)) (h : Value.okWide P w r base t v) :
    ∃ a0 a1 a2 a3 a4, v = .agg #[.int k0 a0, .int k1 a1, .int k2 a2, .int k3 a3, .int k4 a4] ∧ k0.has a0 ∧ k1.has a1 ∧ k2.has a2 ∧ k3.has a3 ∧ k4.has a4 := by
  obtain ⟨cs, rfl, hs, hh⟩ := ok_cells ht hd hts hc h
  obtain ⟨l⟩ := cs
  match l, hs with
  | [x0, x1, x2, x3, x4], _ =>
    obtain ⟨u, hu, hx⟩ := hh 0 x0 (by simp)
    obtain rfl : t0 = u := by simpa using hu
    obtain ⟨a0, rfl, g0⟩ := cell_int u0 hx
    obtain ⟨u, hu, hx⟩ := hh 1 x1 (by simp)
    obtain rfl : t1 = u := by simpa using hu
    obtain ⟨a1, rfl, g1⟩ := cell_int u1 hx
    obtain ⟨u, hu, hx⟩ := hh 2 x2 (by simp)
    obtain rfl : t2 = u := by simpa using hu
    obtain ⟨a2, rfl, g2⟩ := cell_int u2 hx
    obtain ⟨u, hu, hx⟩ := hh 3 x3 (by simp)
    obtain rfl : t3 = u := by simpa using hu
    obtain ⟨a3, rfl, g3⟩ := cell_int u3 hx
    obtain ⟨u, hu, hx⟩ := hh 4 x4 (by simp)
    obtain rfl : t4 = u := by simpa using hu
    obtain ⟨a4, rfl, g4⟩ := cell_int u4 hx
    exact ⟨a0, a1, a2, a3, a4, rfl, g0, g1, g2, g3, g4⟩
theorem open_ints6 {P : Program} {w : World} {r : Reach} {base : Nat} {t : TypeId} {v : Value} {d : TypeDesc} {t0 t1 t2 t3 t4 t5 : TypeId} {k0 k1 k2 k3 k4 k5 : IntKind} (ht : P.underlying t = some d) (hd : (match d with | .struct _ | .array _ _ => true | _ => false) = true)
    (hts : P.cellTypes P.depth t = some [t0, t1, t2, t3, t4, t5]) (hc : P.cellsOf t = 6) (u0 : P.underlying t0 = some (.int k0)) (u1 : P.underlying t1 = some (.int k1)) (u2 : P.underlying t2 = some (.int k2)) (u3 : P.underlying t3 = some (.int k3)) (u4 : P.underlying t4 = some (.int k4)) (u5 : P.underlying t5 = some (.int k5)) (h : Value.okWide P w r base t v) :
    ∃ a0 a1 a2 a3 a4 a5, v = .agg #[.int k0 a0, .int k1 a1, .int k2 a2, .int k3 a3, .int k4 a4, .int k5 a5] ∧ k0.has a0 ∧ k1.has a1 ∧ k2.has a2 ∧ k3.has a3 ∧ k4.has a4 ∧ k5.has a5 := by
  obtain ⟨cs, rfl, hs, hh⟩ := ok_cells ht hd hts hc h
  obtain ⟨l⟩ := cs
  match l, hs with
  | [x0, x1, x2, x3, x4, x5], _ =>
    obtain ⟨u, hu, hx⟩ := hh 0 x0 (by simp)
    obtain rfl : t0 = u := by simpa using hu
    obtain ⟨a0, rfl, g0⟩ := cell_int u0 hx
    obtain ⟨u, hu, hx⟩ := hh 1 x1 (by simp)
    obtain rfl : t1 = u := by simpa using hu
    obtain ⟨a1, rfl, g1⟩ := cell_int u1 hx
    obtain ⟨u, hu, hx⟩ := hh 2 x2 (by simp)
    obtain rfl : t2 = u := by simpa using hu
    obtain ⟨a2, rfl, g2⟩ := cell_int u2 hx
    obtain ⟨u, hu, hx⟩ := hh 3 x3 (by simp)
    obtain rfl : t3 = u := by simpa using hu
    obtain ⟨a3, rfl, g3⟩ := cell_int u3 hx
    obtain ⟨u, hu, hx⟩ := hh 4 x4 (by simp)
    obtain rfl : t4 = u := by simpa using hu
    obtain ⟨a4, rfl, g4⟩ := cell_int u4 hx
    obtain ⟨u, hu, hx⟩ := hh 5 x5 (by simp)
    obtain rfl : t5 = u := by simpa using hu
    obtain ⟨a5, rfl, g5⟩ := cell_int u5 hx
    exact ⟨a0, a1, a2, a3, a4, a5, rfl, g0, g1, g2, g3, g4, g5⟩
theorem open_ints7 {P : Program} {w : World} {r : Reach} {base : Nat} {t : TypeId} {v : Value} {d : TypeDesc} {t0 t1 t2 t3 t4 t5 t6 : TypeId} {k0 k1 k2 k3 k4 k5 k6 : IntKind} (ht : P.underlying t = some d) (hd : (match d with | .struct _ | .array _ _ => true | _ => false) = true)
    (hts : P.cellTypes P.depth t = some [t0, t1, t2, t3, t4, t5, t6]) (hc : P.cellsOf t = 7) (u0 : P.underlying t0 = some (.int k0)) (u1 : P.underlying t1 = some (.int k1)) (u2 : P.underlying t2 = some (.int k2)) (u3 : P.underlying t3 = some (.int k3)) (u4 : P.underlying t4 = some (.int k4)) (u5 : P.underlying t5 = some (.int k5)) (u6 : P.underlying t6 = some (.int k6)) (h : Value.okWide P w r base t v) :
    ∃ a0 a1 a2 a3 a4 a5 a6, v = .agg #[.int k0 a0, .int k1 a1, .int k2 a2, .int k3 a3, .int k4 a4, .int k5 a5, .int k6 a6] ∧ k0.has a0 ∧ k1.has a1 ∧ k2.has a2 ∧ k3.has a3 ∧ k4.has a4 ∧ k5.has a5 ∧ k6.has a6 := by
  obtain ⟨cs, rfl, hs, hh⟩ := ok_cells ht hd hts hc h
  obtain ⟨l⟩ := cs
  match l, hs with
  | [x0, x1, x2, x3, x4, x5, x6], _ =>
    obtain ⟨u, hu, hx⟩ := hh 0 x0 (by simp)
    obtain rfl : t0 = u := by simpa using hu
    obtain ⟨a0, rfl, g0⟩ := cell_int u0 hx
    obtain ⟨u, hu, hx⟩ := hh 1 x1 (by simp)
    obtain rfl : t1 = u := by simpa using hu
    obtain ⟨a1, rfl, g1⟩ := cell_int u1 hx
    obtain ⟨u, hu, hx⟩ := hh 2 x2 (by simp)
    obtain rfl : t2 = u := by simpa using hu
    obtain ⟨a2, rfl, g2⟩ := cell_int u2 hx
    obtain ⟨u, hu, hx⟩ := hh 3 x3 (by simp)
    obtain rfl : t3 = u := by simpa using hu
    obtain ⟨a3, rfl, g3⟩ := cell_int u3 hx
    obtain ⟨u, hu, hx⟩ := hh 4 x4 (by simp)
    obtain rfl : t4 = u := by simpa using hu
    obtain ⟨a4, rfl, g4⟩ := cell_int u4 hx
    obtain ⟨u, hu, hx⟩ := hh 5 x5 (by simp)
    obtain rfl : t5 = u := by simpa using hu
    obtain ⟨a5, rfl, g5⟩ := cell_int u5 hx
    obtain ⟨u, hu, hx⟩ := hh 6 x6 (by simp)
    obtain rfl : t6 = u := by simpa using hu
    obtain ⟨a6, rfl, g6⟩ := cell_int u6 hx
    exact ⟨a0, a1, a2, a3, a4, a5, a6, rfl, g0, g1, g2, g3, g4, g5, g6⟩
theorem open_ints8 {P : Program} {w : World} {r : Reach} {base : Nat} {t : TypeId} {v : Value} {d : TypeDesc} {t0 t1 t2 t3 t4 t5 t6 t7 : TypeId} {k0 k1 k2 k3 k4 k5 k6 k7 : IntKind} (ht : P.underlying t = some d) (hd : (match d with | .struct _ | .array _ _ => true | _ => false) = true)
    (hts : P.cellTypes P.depth t = some [t0, t1, t2, t3, t4, t5, t6, t7]) (hc : P.cellsOf t = 8) (u0 : P.underlying t0 = some (.int k0)) (u1 : P.underlying t1 = some (.int k1)) (u2 : P.underlying t2 = some (.int k2)) (u3 : P.underlying t3 = some (.int k3)) (u4 : P.underlying t4 = some (.int k4)) (u5 : P.underlying t5 = some (.int k5)) (u6 : P.underlying t6 = some (.int k6)) (u7 : P.underlying t7 = some (.int k7)) (h : Value.okWide P w r base t v) :
    ∃ a0 a1 a2 a3 a4 a5 a6 a7, v = .agg #[.int k0 a0, .int k1 a1, .int k2 a2, .int k3 a3, .int k4 a4, .int k5 a5, .int k6 a6, .int k7 a7] ∧ k0.has a0 ∧ k1.has a1 ∧ k2.has a2 ∧ k3.has a3 ∧ k4.has a4 ∧ k5.has a5 ∧ k6.has a6 ∧ k7.has a7 := by
  obtain ⟨cs, rfl, hs, hh⟩ := ok_cells ht hd hts hc h
  obtain ⟨l⟩ := cs
  match l, hs with
  | [x0, x1, x2, x3, x4, x5, x6, x7], _ =>
    obtain ⟨u, hu, hx⟩ := hh 0 x0 (by simp)
    obtain rfl : t0 = u := by simpa using hu
    obtain ⟨a0, rfl, g0⟩ := cell_int u0 hx
    obtain ⟨u, hu, hx⟩ := hh 1 x1 (by simp)
    obtain rfl : t1 = u := by simpa using hu
    obtain ⟨a1, rfl, g1⟩ := cell_int u1 hx
    obtain ⟨u, hu, hx⟩ := hh 2 x2 (by simp)
    obtain rfl : t2 = u := by simpa using hu
    obtain ⟨a2, rfl, g2⟩ := cell_int u2 hx
    obtain ⟨u, hu, hx⟩ := hh 3 x3 (by simp)
    obtain rfl : t3 = u := by simpa using hu
    obtain ⟨a3, rfl, g3⟩ := cell_int u3 hx
    obtain ⟨u, hu, hx⟩ := hh 4 x4 (by simp)
    obtain rfl : t4 = u := by simpa using hu
    obtain ⟨a4, rfl, g4⟩ := cell_int u4 hx
    obtain ⟨u, hu, hx⟩ := hh 5 x5 (by simp)
    obtain rfl : t5 = u := by simpa using hu
    obtain ⟨a5, rfl, g5⟩ := cell_int u5 hx
    obtain ⟨u, hu, hx⟩ := hh 6 x6 (by simp)
    obtain rfl : t6 = u := by simpa using hu
    obtain ⟨a6, rfl, g6⟩ := cell_int u6 hx
    obtain ⟨u, hu, hx⟩ := hh 7 x7 (by simp)
    obtain rfl : t7 = u := by simpa using hu
    obtain ⟨a7, rfl, g7⟩ := cell_int u7 hx
    exact ⟨a0, a1, a2, a3, a4, a5, a6, a7, rfl, g0, g1, g2, g3, g4, g5, g6, g7⟩
theorem open_ints9 {P : Program} {w : World} {r : Reach} {base : Nat} {t : TypeId} {v : Value} {d : TypeDesc} {t0 t1 t2 t3 t4 t5 t6 t7 t8 : TypeId} {k0 k1 k2 k3 k4 k5 k6 k7 k8 : IntKind} (ht : P.underlying t = some d) (hd : (match d with | .struct _ | .array _ _ => true | _ => false) = true)
    (hts : P.cellTypes P.depth t = some [t0, t1, t2, t3, t4, t5, t6, t7, t8]) (hc : P.cellsOf t = 9) (u0 : P.underlying t0 = some (.int k0)) (u1 : P.underlying t1 = some (.int k1)) (u2 : P.underlying t2 = some (.int k2)) (u3 : P.underlying t3 = some (.int k3)) (u4 : P.underlying t4 = some (.int k4)) (u5 : P.underlying t5 = some (.int k5)) (u6 : P.underlying t6 = some (.int k6)) (u7 : P.underlying t7 = some (.int k7)) (u8 : P.underlying t8 = some (.int k8)) (h : Value.okWide P w r base t v) :
    ∃ a0 a1 a2 a3 a4 a5 a6 a7 a8, v = .agg #[.int k0 a0, .int k1 a1, .int k2 a2, .int k3 a3, .int k4 a4, .int k5 a5, .int k6 a6, .int k7 a7, .int k8 a8] ∧ k0.has a0 ∧ k1.has a1 ∧ k2.has a2 ∧ k3.has a3 ∧ k4.has a4 ∧ k5.has a5 ∧ k6.has a6 ∧ k7.has a7 ∧ k8.has a8 := by
  obtain ⟨cs, rfl, hs, hh⟩ := ok_cells ht hd hts hc h
  obtain ⟨l⟩ := cs
  match l, hs with
  | [x0, x1, x2, x3, x4, x5, x6, x7, x8], _ =>
    obtain ⟨u, hu, hx⟩ := hh 0 x0 (by simp)
    obtain rfl : t0 = u := by simpa using hu
    obtain ⟨a0, rfl, g0⟩ := cell_int u0 hx
    obtain ⟨u, hu, hx⟩ := hh 1 x1 (by simp)
    obtain rfl : t1 = u := by simpa using hu
    obtain ⟨a1, rfl, g1⟩ := cell_int u1 hx
    obtain ⟨u, hu, hx⟩ := hh 2 x2 (by simp)
    obtain rfl : t2 = u := by simpa using hu
    obtain ⟨a2, rfl, g2⟩ := cell_int u2 hx
    obtain ⟨u, hu, hx⟩ := hh 3 x3 (by simp)
    obtain rfl : t3 = u := by simpa using hu
    obtain ⟨a3, rfl, g3⟩ := cell_int u3 hx
    obtain ⟨u, hu, hx⟩ := hh 4 x4 (by simp)
    obtain rfl : t4 = u := by simpa using hu
    obtain ⟨a4, rfl, g4⟩ := cell_int u4 hx
    obtain ⟨u, hu, hx⟩ := hh 5 x5 (by simp)
    obtain rfl : t5 = u := by simpa using hu
    obtain ⟨a5, rfl, g5⟩ := cell_int u5 hx
    obtain ⟨u, hu, hx⟩ := hh 6 x6 (by simp)
    obtain rfl : t6 = u := by simpa using hu
    obtain ⟨a6, rfl, g6⟩ := cell_int u6 hx
    obtain ⟨u, hu, hx⟩ := hh 7 x7 (by simp)
    obtain rfl : t7 = u := by simpa using hu
    obtain ⟨a7, rfl, g7⟩ := cell_int u7 hx
    obtain ⟨u, hu, hx⟩ := hh 8 x8 (by simp)
    obtain rfl : t8 = u := by simpa using hu
    obtain ⟨a8, rfl, g8⟩ := cell_int u8 hx
    exact ⟨a0, a1, a2, a3, a4, a5, a6, a7, a8, rfl, g0, g1, g2, g3, g4, g5, g6, g7, g8⟩
end Mem
end Go
