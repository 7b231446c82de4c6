/- Lemmas for the law TopSlotWorld: MerkleW, Verify, MerkleP3, Own, Levels, Filled, MerkleP4, Narrow, MerkleP5, MProof. No conditions. -/
import Derived.Test.YtpilpkbblkhnaaaM01
import Derived.Test.YtpilpkbblkhnaaaM02
import Derived.Deep.RegionHeld3
import Derived.Maps.AppendAt
import Derived.Deep.AppendLies
import Derived.OwnWalk
import Derived.Deep.DeepMust
import Derived.BigQuiet
import Derived.Deep.QuietTactic
/- The reference's half, Top. -/
section
namespace Go.Proofs.Ytpilpkbblkhnaaa
open Go.ChangeShapes Go.WideShapes Go.ChangeAt Go.RowKit Go.Mem Go.Mk
set_option linter.unusedVariables false

def tieI (a b : Int) : Int := ((tied (W64.u a) (W64.u b) : Nat) : Int)
theorem U64s.take {l : List Int} (h : U64s l) (k : Nat) : U64s (l.take k) := fun z hz => h z (List.mem_of_mem_take hz)
theorem U64s.drop {l : List Int} (h : U64s l) (k : Nat) : U64s (l.drop k) := fun z hz => h z (List.mem_of_mem_drop hz)
end Go.Proofs.Ytpilpkbblkhnaaa
end
/- merkle.Verify; the reference's Verified. -/
section
namespace Go.Proofs.Ytpilpkbblkhnaaa
open Go.ChangeShapes Go.WideShapes Go.ChangeAt Go.RowKit Go.Mem Go.Mk
set_option linter.unusedVariables false

end Go.Proofs.Ytpilpkbblkhnaaa
end
/- Trees of digests: the levels (plain). -/
section
namespace Go.Mk
section
variable (T : Int → Int → Int)
def levsF : Nat → List Int → List (List Int)
  | 0, l => [l]
  | f + 1, l => if l.length ≤ 1 then [l] else l :: levsF f (pair T l)
def levs (l : List Int) : List (List Int) := levsF T l.length l
end
end Go.Mk
end
/- Rows of the call's own: kept, apart from each other; an append of a slice of integers. No program is named here. -/
section
namespace Go
open Go.RowKit
namespace Mem

/-! More on rows of the call's own. -/
theorem own_keep {w w2 : World} {base e size n : Nat} {v : Value} {xs : List Value} (h : w.ownsRow base e size v n xs) (hk : ∀ g, v.ownBlock = some g → w2.heap[g]? = w.heap[g]?) : w2.ownsRow base e size v n xs := by
  refine ⟨h.1, ?_⟩
  rcases h.2 with h2 | ⟨g, cap, cur, h1, h2, h3, h4⟩
  · exact .inl h2
  · exact .inr ⟨g, cap, cur, h1, h2, (hk g (by rw [h1]; rfl)).trans h3, h4⟩
theorem own_lt {w : World} {base e size n : Nat} {v : Value} {xs : List Value} (h : w.ownsRow base e size v n xs) (g : Nat) (hg : v.ownBlock = some g) : base ≤ g ∧ g < w.heap.size := by
  rcases h.2 with ⟨h2, _⟩ | ⟨g', cap, cur, h1, h2, h3, h4⟩
  · rw [h2] at hg; cases hg
  · rw [h1] at hg
    obtain rfl : g' = g := by simpa [Value.ownBlock] using hg
    exact ⟨h2, lt_of_heap h3⟩
theorem own_below {w w2 : World} {base e size n : Nat} {v : Value} {xs : List Value} (h : w.ownsRow base e size v n xs) (hb : Below w.heap.size w w2) : w2.ownsRow base e size v n xs :=
  own_keep h fun g hg => hb.block g (own_lt h g hg).2
theorem own_grown {w w2 : World} {base e size n : Nat} {v : Value} {xs : List Value} {row : Option Nat} (h : w.ownsRow base e size v n xs) (hg : w.grownBy w2 row) (hne : ∀ g, v.ownBlock = some g → some g ≠ row) : w2.ownsRow base e size v n xs :=
  own_keep h fun g hv => hg.block g (own_lt h g hv).2 (hne g hv)
/-- Rows of different element types lie in different blocks. -/
theorem own_other {w : World} {base base2 e e2 size size2 n n2 : Nat} {v v2 : Value} {xs ys : List Value} (h : w.ownsRow base e size v n xs) (h2 : w.ownsRow base2 e2 size2 v2 n2 ys) (hne : e ≠ e2) (g : Nat) (hg : v.ownBlock = some g) : some g ≠ v2.ownBlock := by
  intro he
  rcases h.2 with ⟨h3, _⟩ | ⟨g', cap, cur, h3, _, h4, _⟩
  · rw [h3] at hg; cases hg
  · rw [h3] at hg
    obtain rfl : g' = g := by simpa [Value.ownBlock] using hg
    rcases h2.2 with ⟨h5, _⟩ | ⟨g'', cap2, cur2, h5, _, h6, _⟩
    · rw [h5] at he; cases he
    · rw [h5] at he
      obtain rfl : g' = g'' := by simpa [Value.ownBlock] using he
      rw [h4] at h6
      injection h6 with h6
      injection h6 with _ ht
      exact hne ht
theorem own_base {w : World} {base base2 e size n : Nat} {v : Value} {xs : List Value} (h : w.ownsRow base e size v n xs) (hb : ∀ g, v.ownBlock = some g → base2 ≤ g) : w.ownsRow base2 e size v n xs := by
  refine ⟨h.1, ?_⟩
  rcases h.2 with h2 | ⟨g, cap, cur, h1, h2, h3⟩
  · exact .inl h2
  · exact .inr ⟨g, cap, cur, h1, hb g (by rw [h1]; rfl), h3⟩
theorem own_lower {w : World} {base base2 e size n : Nat} {v : Value} {xs : List Value} (h : w.ownsRow base e size v n xs) (hb : base2 ≤ base) : w.ownsRow base2 e size v n xs := own_base h fun g hg => Nat.le_trans hb (own_lt h g hg).1
/-- 'append(v, s...)' of a slice of integers, whatever it is, v nil or the call's own. -/
theorem wpList_append_ints {P : Program} {w : World} {ops : Array Oper} {rest : List Oper} {o : Oper} {a : Act} {Q : Exit → Act → World → Prop} (hgd : o.guard = none) (s x : Operand) (t : TypeId)
    (ho : o.op = .call { callee := .builtin .append, args := #[s, x], argTypes := #[t, t] })
    (base : Nat) (e : TypeId) (k : IntKind) (bytes : Nat) (ht : P.underlying t = some (.slice e)) (hi : (P.info? e).map (fun i => (i.zero, i.size, i.bytes)) = some (some (.int k 0), 1, bytes))
    (v : Value) (n : Nat) (xs : List Int) (hs : a.eval s = v) (hown : w.ownsRow base e 1 v n (vints k xs))
    (A : Option Addr) (m c : Nat) (zs : List Int) (hx : a.eval x = .slice A m c) (hm : zs.length = m) (hr : IntsAt k w A zs)
    (hn : n + m ≤ maxLen) (hbytes : (n + m) * bytes ≤ 140737488355328) (hbase : base ≤ w.heap.size)
    (h : ∀ v' w', w'.ownsRow base e 1 v' (n + m) (vints k (xs ++ zs)) → w.grownBy w' v.ownBlock → (v'.ownBlock = v.ownBlock ∨ v'.ownBlock = some w.heap.size) → wpList P ops Q rest (a.put o.dst v') w') :
    wpList P ops Q (o :: rest) a w := by
  obtain ⟨i, hi1, hi2, hi3, hi4⟩ := info_parts hi
  have key : ∃ v' w', (Builtin.append_ #[t, t] o.type #[v, .slice A m c]).run P w = .ok v' w' ∧ w'.ownsRow base e 1 v' (n + m) (vints k (xs ++ zs)) ∧ w.grownBy w' v.ownBlock ∧ (v'.ownBlock = v.ownBlock ∨ v'.ownBlock = some w.heap.size) := by
    by_cases h0 : m = 0
    · subst h0
      have hz : zs = [] := List.eq_nil_of_length_eq_zero hm
      subst hz
      rcases A with _ | ad
      · refine ⟨v, w, ?_, by simpa using hown, World.grownBy.refl w _, .inl rfl⟩
        rcases hown.2 with ⟨rfl, rfl⟩ | ⟨g, cap, cur, rfl, _, _, hnc, _⟩
        · simp [Builtin.append_, run_underlying ht, sizeOf, typeInfo, hi1, Builtin.lenOf, Builtin.firstCells]
        · simp [Builtin.append_, run_underlying ht, sizeOf, typeInfo, hi1, Builtin.lenOf, Builtin.firstCells, hnc, storeCells]
      · obtain ⟨v', w', hrun, h2, h3, _, h5⟩ := run_append_own_at (P := P) w base t o.type e i (.int k 0) 1 bytes ht hi1 hi2 hi3 hi4 rfl (by omega) v n _ hown ad 0 c [] rfl (by simp) (by simp) hn hbytes hbase
        exact ⟨v', w', hrun, by simpa using h2, h3, h5⟩
    · obtain ⟨ad, rfl, _, hc⟩ := hr (by omega)
      have hnews : ∀ j u, (vints k zs)[j]? = some u → w.cell? (ad.add j) = some u := by
        intro j u hu
        have hj : j < zs.length := by
          have := (List.getElem?_eq_some_iff.1 hu).1
          rwa [vints_length] at this
        rw [hc j hj]
        rw [vints_get k zs j hj] at hu
        exact hu
      obtain ⟨v', w', hrun, h2, h3, _, h5⟩ := run_append_own_at (P := P) w base t o.type e i (.int k 0) 1 bytes ht hi1 hi2 hi3 hi4 rfl (by omega) v n _ hown ad m c (vints k zs) (by rw [vints_length, hm, Nat.mul_one]) hnews (vints_one k zs) hn hbytes hbase
      rw [vints_append] at h2
      exact ⟨v', w', hrun, h2, h3, h5⟩
  obtain ⟨v', w', hrun, h2, h3, h4⟩ := key
  refine wpList_plain hgd fun K hK => ?_
  unfold Oper.wp execOp
  simp only [ho, resolve, invoke, builtin, Sem.run_bind, Sem.run_pure, Result.andThen_ok, List.map_toArray, List.map_cons, List.map_nil, hs, hx, hrun]
  exact hK _ _ (h v' w' h2 h3 h4)
end Mem
end Go
end
/- merkle.levels. -/
section
namespace Go.Proofs.Ytpilpkbblkhnaaa
open Go.ChangeShapes Go.WideShapes Go.ChangeAt Go.RowKit Go.Mem Go.Mk
set_option linter.unusedVariables false

/-- The levels of a tree, in memory. -/
def LevAt (w : World) (v : Value) (ls : List (List Int)) : Prop :=
  ∃ g cap, v = .slice (some ⟨g, 0, none⟩) ls.length cap ∧ ls.length ≤ cap ∧ g < w.heap.size ∧
    ∀ j, j < ls.length → ∃ a c, w.cell? ⟨g, j, none⟩ = some (.slice a (ls.getD j []).length c) ∧ (ls.getD j []).length ≤ c ∧ IntsAt .u64 w a (ls.getD j [])
theorem LevAt.below {w w2 : World} {v : Value} {ls : List (List Int)} (h : LevAt w v ls) (hb : Below w.heap.size w w2) : LevAt w2 v ls := by
  obtain ⟨g, cap, h1, h2, h3, h4⟩ := h
  refine ⟨g, cap, h1, h2, Nat.lt_of_lt_of_le h3 hb.size, fun j hj => ?_⟩
  obtain ⟨a, c, k1, k2, k4⟩ := h4 j hj
  exact ⟨a, c, (hb.cell h3).trans k1, k2, k4.below hb⟩
/-- The rows that the call has made so far. -/
def RowsOwn (w : World) (D : Nat) (vs : List Value) (rows : List (List Int)) : Prop :=
  vs.length = rows.length ∧ ∀ j, j < rows.length → w.ownsRow D 61 1 (vs.getD j undef) (rows.getD j []).length (vints .u64 (rows.getD j []))
theorem RowsOwn.keep {w w2 : World} {D : Nat} {vs : List Value} {rows : List (List Int)} (h : RowsOwn w D vs rows) (hk : ∀ base n v xs, w.ownsRow base 61 1 v n xs → w2.ownsRow base 61 1 v n xs) : RowsOwn w2 D vs rows :=
  ⟨h.1, fun j hj => hk _ _ _ _ (h.2 j hj)⟩
theorem RowsOwn.snoc {w : World} {D : Nat} {vs : List Value} {rows : List (List Int)} {v : Value} {r : List Int} {n : Nat} (h : RowsOwn w D vs rows) (hn : n = r.length) (hv : w.ownsRow D 61 1 v n (vints .u64 r)) : RowsOwn w D (vs ++ [v]) (rows ++ [r]) := by
  subst hn
  refine ⟨by simp [h.1], fun j hj => ?_⟩
  by_cases q : j < rows.length
  · have e1 : (vs ++ [v]).getD j undef = vs.getD j undef := by
      rw [List.getD_eq_getElem?_getD, List.getElem?_append_left (by rw [h.1]; exact q), ← List.getD_eq_getElem?_getD]
    have e2 : (rows ++ [r]).getD j [] = rows.getD j [] := by
      rw [List.getD_eq_getElem?_getD, List.getElem?_append_left q, ← List.getD_eq_getElem?_getD]
    rw [e1, e2]; exact h.2 j q
  · have ej : j = rows.length := by simp at hj; omega
    subst ej
    have e1 : (vs ++ [v]).getD rows.length undef = v := by rw [← h.1]; simp
    have e2 : (rows ++ [r]).getD rows.length [] = r := by simp
    rw [e1, e2]; exact hv
end Go.Proofs.Ytpilpkbblkhnaaa
end
/- merkle.filled. -/
section
namespace Go.Proofs.Ytpilpkbblkhnaaa
open Go.ChangeShapes Go.WideShapes Go.ChangeAt Go.RowKit Go.Mem Go.Mk
set_option linter.unusedVariables false

def compl (z : Int) : Int := 18446744073709551615 - z
def fill (a b : List Int) : List Int := a ++ (b.drop a.length).map compl
/-- A slice of words that the call has made. -/
def SlicePost (zs : List Int) (w : World) (e : Ending) (w' : World) : Prop := ∃ a cap, e = .returned (.slice a zs.length cap) ∧ zs.length ≤ cap ∧ IntsAt .u64 w' a zs ∧ Below w.heap.size w w'
end Go.Proofs.Ytpilpkbblkhnaaa
end
/- Trees of digests: one level from the next (plain). -/
section
namespace Go.Mk
section
variable (T : Int → Int → Int)
/-- The way down at a level. -/
def way (X Y : List Int) (j : Nat) : Nat × Nat := nd T ((levs T X).getD j []) ((levs T Y).getD j [])
end
end Go.Mk
end
/- merkle.Narrow. -/
section
namespace Go.Proofs.Ytpilpkbblkhnaaa
open Go.ChangeShapes Go.WideShapes Go.ChangeAt Go.RowKit Go.Mem Go.Mk
set_option linter.unusedVariables false

/-- A row of the levels, read. -/
theorem LevAt.row {w : World} {v : Value} {ls : List (List Int)} (h : LevAt w v ls) : ∃ g cap, v = .slice (some ⟨g, 0, none⟩) ls.length cap ∧ ls.length ≤ cap ∧ g < w.heap.size ∧
    ∀ j, j < ls.length → 1 ≤ (ls.getD j []).length → ∃ x c, w.cell? ⟨g, j, none⟩ = some (.slice (some x) (ls.getD j []).length c) ∧ (ls.getD j []).length ≤ c ∧ x.block < w.heap.size ∧ ∀ i, i < (ls.getD j []).length → w.cell? (x.add i) = some (.int .u64 ((ls.getD j []).getD i 0)) := by
  obtain ⟨g, cap, h1, h2, h3, h4⟩ := h
  refine ⟨g, cap, h1, h2, h3, fun j hj hl => ?_⟩
  obtain ⟨a, c, k1, k2, k3⟩ := h4 j hj
  obtain ⟨x, rfl, hx, hc⟩ := k3 (by omega)
  exact ⟨x, c, k1, k2, hx, hc⟩

/-- What Narrow computes of two lists of one length. -/
def narrow (X Y : List Int) : Int × Int := if top tieI X = top tieI Y then (-1, 1) else (((nd tieI X Y).1 : Int), ((nd tieI X Y).2 : Int) + 1)

theorem SlicePost.n {zs : List Int} {w : World} {e : Ending} {w' : World} (h : SlicePost zs w e w') (n : Nat) (hn : zs.length = n) : ∃ a cap, e = .returned (.slice a n cap) ∧ n ≤ cap ∧ IntsAt .u64 w' a zs ∧ Below w.heap.size w w' := by
  subst hn; exact h
end Go.Proofs.Ytpilpkbblkhnaaa
end
/- The proof of a leaf, along the levels. -/
section
namespace Go.Mk
variable (T : Int → Int → Int)
end Go.Mk
end
/- merkle.Proof. -/
section
namespace Go.Proofs.Ytpilpkbblkhnaaa
open Go.ChangeShapes Go.WideShapes Go.ChangeAt Go.RowKit Go.Mem Go.Mk
set_option linter.unusedVariables false

theorem LevAt.cells {w : World} {g T c : Nat} {ls : List (List Int)} (h : LevAt w (.slice (some ⟨g, 0, none⟩) T c) ls) (j : Nat) (hj : j < T) : ∃ a c, w.cell? ⟨g, j, none⟩ = some (.slice a (ls.getD j []).length c) ∧ (ls.getD j []).length ≤ c ∧ IntsAt .u64 w a (ls.getD j []) := by
  obtain ⟨g2, c2, e2, _, hg2, hlv⟩ := h
  injection e2 with e2 e3 _
  injection e2 with e2
  injection e2 with e2
  subst e2
  exact hlv j (by omega)
end Go.Proofs.Ytpilpkbblkhnaaa
end
