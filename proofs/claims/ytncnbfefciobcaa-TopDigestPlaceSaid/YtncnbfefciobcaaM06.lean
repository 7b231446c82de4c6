/- Lemmas for the law TopDigestPlace: Mem3, Bulk, Rd, AggB, NameP, NameW, FieldW, ApiKind, ApiComp, ApiItem. No conditions. -/
import Derived.Test.YtncnbfefciobcaaM01
import Derived.Laws.MakeOwn
import Derived.Test.YtncnbfefciobcaaM03
import Derived.Test.YtncnbfefciobcaaRows
import Derived.Deep.Slices
import Derived.OpenShut
import Derived.ChangeArms
import Derived.Lib.SlTrimSet
import Derived.WalkKit
import Derived.ProofKit
import Derived.Lib.Hide
import Derived.Deep.LoopGhost
/- Rows of elements of several cells: made, and written. No program is named here. -/
section
namespace Go
open Go.RowKit
namespace Mem
/-- Block g is a row of N cells. -/
def Blk (w : World) (g : Nat) (t : TypeId) (N : Nat) : Prop := ∃ cs, w.heap[g]? = some (.cells cs t (0, 0)) ∧ cs.size = N
theorem Blk.lt {w : World} {g : Nat} {t : TypeId} {N : Nat} (h : Blk w g t N) : g < w.heap.size := by obtain ⟨cs, h1, _⟩ := h; exact lt_of_heap h1
theorem Blk.below {w w' : World} {g : Nat} {t : TypeId} {N : Nat} (h : Blk w g t N) (hb : Below w.heap.size w w') : Blk w' g t N := by obtain ⟨cs, h1, h2⟩ := h; exact ⟨cs, heap_below h1 hb, h2⟩
theorem Blk.set {w : World} {g : Nat} {t : TypeId} {N : Nat} (h : Blk w g t N) (i : Nat) (v : Value) : Blk (w.setCell ⟨g, i, none⟩ v) g t N := by
  obtain ⟨cs, h1, h2⟩ := h
  exact ⟨_, heap_set h1 i v, by simpa using h2⟩
theorem Blk.far {w : World} {g : Nat} {t : TypeId} {N : Nat} (h : Blk w g t N) {p : Addr} (hne : g ≠ p.block) (v : Value) : Blk (w.setCell p v) g t N := by
  obtain ⟨cs, h1, h2⟩ := h
  exact ⟨_, heap_far h1 hne v, h2⟩
theorem Blk.cell {w : World} {g : Nat} {t : TypeId} {N : Nat} (h : Blk w g t N) (i : Nat) (hi : i < N) : ∃ v, w.cell? ⟨g, i, none⟩ = some v := by
  obtain ⟨cs, h1, h2⟩ := h
  rw [cell_of_row w g i _ _ _ h1]
  exact ⟨cs[i]'(by omega), Array.getElem?_eq_getElem (by omega)⟩
theorem Blk.frozen {w : World} {g : Nat} {t : TypeId} {N : Nat} (h : Blk w g t N) (i : Nat) : w.frozen? ⟨g, i, none⟩ = false := by
  obtain ⟨cs, h1, _⟩ := h; exact Mem.frozen_of_row h1 i
theorem wpList_make_blk {P : Program} {ops : Array Oper} {rest : List Oper} {o : Oper} {a : Act} {w : World} {Q : Exit → Act → World → Prop}
    (hg : o.guard = none) (l c : Operand) (t : TypeId) (hop : o.op = Op.makeSlice t l c) (e : TypeId) (z : Value) (sz bytes : Nat) (h1 : P.underlying t = some (.slice e)) (h2 : (P.info? e).map (fun i => (i.zero, i.size, i.bytes)) = some (some z, sz, bytes))
    (kl kc : IntKind) (L C : Int) (n : Nat) (hl : a.eval l = .int kl L) (hc : a.eval c = .int kc C) (hL : L = (n : Int)) (hC : C = (n : Int)) (b2 : bytes * n ≤ 281474976710656) (b3 : n ≤ maxLen)
    (hK : ∀ w2, Blk w2 w.heap.size e (n * sz) → Below w.heap.size w w2 → w2.heap.size = w.heap.size + 1 → wpList P ops Q rest (a.put o.dst (.slice (some ⟨w.heap.size, 0, none⟩) n n)) w2) :
    wpList P ops Q (o :: rest) a w := by
  refine wpList_plain hg fun K hK' => ?_
  obtain ⟨i, hi, hz, hs, hby⟩ := info_parts h2
  subst hL
  subst hC
  have hb : (i.bytes : Int) * (n : Int) ≤ 281474976710656 := by
    have h : ((i.bytes * n : Nat) : Int) ≤ 281474976710656 := by rw [hby]; omega
    rwa [Int.natCast_mul] at h
  have hr := run_make (P := P) w t e i z h1 hi hz kl kc n n (by omega) (by omega) hb (by unfold maxLen at b3; omega)
  simp only [Int.toNat_natCast] at hr
  unfold Oper.wp
  simp [execOp, hop, hl, hc, hr, Result.andThen, Oper.upon]
  refine hK' _ _ (hK _ ⟨_, heap_alloc_new _ _, ?_⟩ ((Below.refl _ _).alloc (Nat.le_refl _) _) (by simp))
  rw [size_madeCells, hs]
theorem list10 {α : Type} {vs : List α} (h : vs.length = 10) : ∃ a b c d e f g i j k, vs = [a, b, c, d, e, f, g, i, j, k] := by
  match vs, h with
  | [a, b, c, d, e, f, g, i, j, k], _ => exact ⟨a, b, c, d, e, f, g, i, j, k, rfl⟩
theorem add_nextN (x : Addr) (i r : Nat) (h : 0 < r) : x.add (i + r) = ⟨(x.add i).block, (x.add i).off + r, none⟩ := by
  unfold Addr.add
  by_cases h0 : i = 0
  · subst h0; rw [if_neg (by omega), if_pos rfl, Nat.zero_add]
  · rw [if_neg (by omega), if_neg h0]; simp [Nat.add_assoc]
theorem cell_set_ne {w : World} {p q : Addr} {v : Value} (h : p ≠ q) : (w.setCell p v).cell? q = w.cell? q := World.cell?_setCell_other (h := h) ..
theorem cell_set_eq {w : World} {p : Addr} {u v : Value} (h : w.cell? p = some u) : (w.setCell p v).cell? p = some v := World.cell?_setCell_same (h := h) ..
theorem add_zero_block (G i : Nat) : (⟨G, 0, none⟩ : Addr).add i = ⟨G, i, none⟩ := by
  unfold Addr.add
  by_cases h : i = 0
  · rw [if_pos h, h]
  · rw [if_neg h]; simp
/-- The cells behind an address that is asked for only where there is one. -/
def CellsAt (w : World) (a : Option Addr) (us : List Value) : Prop := 0 < us.length → ∃ x, a = some x ∧ x.block < w.heap.size ∧ ∀ j u, us[j]? = some u → w.cell? (x.add j) = some u
/-- 'append(v, s...)' of a slice of whatever elements, whatever it is, v nil or the call's own. -/
theorem wpList_append_cells {P : Program} {w : World} {ops : Array Oper} {rest : List Oper} {o : Oper} {a : Act} {Q : Exit → Act → World → Prop} (hgd : o.guard = none) (s x : Operand) (t : TypeId)
    (ho : o.op = .call { callee := .builtin .append, args := #[s, x], argTypes := #[t, t] })
    (base : Nat) (e : TypeId) (z : Value) (sz bytes : Nat) (ht : P.underlying t = some (.slice e)) (hi : (P.info? e).map (fun i => (i.zero, i.size, i.bytes)) = some (some z, sz, bytes)) (hzs : z.cells.size = sz) (hsz : 0 < sz)
    (v : Value) (n : Nat) (xs : List Value) (hs : a.eval s = v) (hown : w.ownsRow base e sz v n xs)
    (A : Option Addr) (m c : Nat) (zs : List Value) (hx : a.eval x = .slice A m c) (hm : zs.length = m * sz) (hr : CellsAt w A zs) (hone : ∀ u ∈ zs, u.oneCell' = true)
    (hn : n + m ≤ maxLen) (hbytes : (n + m) * bytes ≤ 140737488355328) (hbase : base ≤ w.heap.size)
    (h : ∀ v' w', w'.ownsRow base e sz v' (n + m) (xs ++ zs) → w.grownBy w' v.ownBlock → (v'.ownBlock = v.ownBlock ∨ v'.ownBlock = some w.heap.size) → wpList P ops Q rest (a.put o.dst v') w') :
    wpList P ops Q (o :: rest) a w := by
  obtain ⟨i, hi1, hi2, hi3, hi4⟩ := info_parts hi
  have key : ∃ v' w', (Builtin.append_ #[t, t] o.type #[v, .slice A m c]).run P w = .ok v' w' ∧ w'.ownsRow base e sz v' (n + m) (xs ++ zs) ∧ w.grownBy w' v.ownBlock ∧ (v'.ownBlock = v.ownBlock ∨ v'.ownBlock = some w.heap.size) := by
    by_cases h0 : m = 0
    · subst h0
      have hz : zs = [] := List.eq_nil_of_length_eq_zero (by omega)
      subst hz
      rcases A with _ | ad
      · refine ⟨v, w, ?_, by simpa using hown, World.grownBy.refl w _, .inl rfl⟩
        rcases hown.2 with ⟨rfl, rfl⟩ | ⟨g, cap, cur, rfl, _, _, hnc, _⟩
        · simp [Builtin.append_, run_underlying ht, sizeOf, typeInfo, hi1, Builtin.lenOf, Builtin.firstCells]
        · simp [Builtin.append_, run_underlying ht, sizeOf, typeInfo, hi1, Builtin.lenOf, Builtin.firstCells, hnc, storeCells]
      · obtain ⟨v', w', hrun, h2, h3, _, h5⟩ := run_append_own_at (P := P) w base t o.type e i z sz bytes ht hi1 hi2 hi3 hi4 hzs hsz v n _ hown ad 0 c [] (by simp) (by simp) (by simp) hn hbytes hbase
        exact ⟨v', w', hrun, by simpa using h2, h3, h5⟩
    · obtain ⟨ad, rfl, _, hc⟩ := hr (by rw [hm]; exact Nat.mul_pos (by omega) hsz)
      obtain ⟨v', w', hrun, h2, h3, _, h5⟩ := run_append_own_at (P := P) w base t o.type e i z sz bytes ht hi1 hi2 hi3 hi4 hzs hsz v n _ hown ad m c zs hm hc hone hn hbytes hbase
      exact ⟨v', w', hrun, h2, h3, h5⟩
  obtain ⟨v', w', hrun, h2, h3, h4⟩ := key
  refine wpList_plain hgd fun K hK => ?_
  unfold Oper.wp execOp
  simp only [ho, resolve, invoke, builtin, Sem.run_bind, Sem.run_pure, Result.andThen_ok, List.map_toArray, List.map_cons, List.map_nil, hs, hx, hrun]
  exact hK _ _ (h v' w' h2 h3 h4)
end Mem
end Go
end
/- What the bound of the second form gives. -/
section
namespace Go.Proofs.Ytncnbfefciobcaa.Bulk
theorem one_le {H : Type} (d : DataW H) : 1 ≤ Rows.uptoBulk d := by
  cases d with
  | lit l => cases l <;> simp [Rows.uptoBulk]
  | nil => simp [Rows.uptoBulk]
  | ptr d => simp [Rows.uptoBulk]
  | slice elems spare => simp [Rows.uptoBulk]
  | agg parts => simp [Rows.uptoBulk]
  | iface t d => simp [Rows.uptoBulk]
  | map entries => simp [Rows.uptoBulk]
  | held h => simp [Rows.uptoBulk]
theorem mem {H : Type} {d : DataW H} {l : List (DataW H)} (h : d ∈ l) : Rows.uptoBulk d ≤ Rows.uptoBulkAll l := by
  induction l with
  | nil => cases h
  | cons x r ih =>
    simp only [Rows.uptoBulkAll]
    rcases List.mem_cons.1 h with e | e
    · subst e; omega
    · have := ih e; omega
theorem len {H : Type} (l : List (DataW H)) : l.length ≤ Rows.uptoBulkAll l := by
  induction l with
  | nil => simp
  | cons x r ih => have := one_le x; simp only [Rows.uptoBulkAll, List.length_cons]; omega
theorem slice {H : Type} {elems spare l : List (DataW H)} (h : DataW.slice elems spare ∈ l) (hk : Rows.uptoSmall H l = true) : elems.length + spare.length ≤ 1048576 := by
  have h1 := mem h
  have h2 := of_decide_eq_true hk
  have h3 := len elems
  have h4 := len spare
  simp only [Rows.uptoBulk] at h1
  omega
theorem nth {H : Type} {elems spare l : List (DataW H)} (i : Nat) (hk : Rows.uptoSmall H l = true) (h : l[i]? = some (.slice elems spare)) : elems.length + spare.length ≤ 1048576 :=
  slice (List.mem_of_getElem? h) hk
theorem string {H : Type} {b : List UInt8} {l : List (DataW H)} (h : DataW.lit (.string b) ∈ l) (hk : Rows.uptoSmall H l = true) : b.length ≤ 1048576 := by
  have h1 := mem h
  have h2 := of_decide_eq_true hk
  simp only [Rows.uptoBulk] at h1
  omega
end Go.Proofs.Ytncnbfefciobcaa.Bulk
end
/- Arguments of nested slices and structs, read whole. No function of the program is named here. -/
section
namespace Go.Proofs.Ytncnbfefciobcaa
open Go.RowKit Go.ChangeShapes Go.WideShapes Go.Deep Go.Mem
set_option linter.unusedVariables false
/-- The elements of a slice whose elements take sz cells each; E says what lies at an element's address. -/
def SlAt {α : Type} (sz : Nat) (E : World → Addr → α → Prop) (w : World) (a : Option Addr) (l : List α) : Prop :=
  0 < l.length → ∃ x, a = some x ∧ x.block < w.heap.size ∧ ∀ i (h : i < l.length), E w (x.add (i * sz)) l[i]
/-- a fact that abides what lies beyond -/
def Abides {α : Type} (E : World → Addr → α → Prop) : Prop := ∀ w w' p y, E w p y → Below w.heap.size w w' → E w' p y
theorem SlAt.below {α : Type} {sz : Nat} {E : World → Addr → α → Prop} (hE : Abides E) {w w' : World} {a : Option Addr} {l : List α} (h : SlAt sz E w a l) (hb : Below w.heap.size w w') : SlAt sz E w' a l := fun h0 => by
  obtain ⟨x, h1, h2, h3⟩ := h h0
  exact ⟨x, h1, Nat.lt_of_lt_of_le h2 hb.size, fun i hi => hE _ _ _ _ (h3 i hi) hb⟩
theorem cell_abides {w w' : World} {p : Addr} {v : Value} (h : w.cell? p = some v) (hb : Below w.heap.size w w') : w'.cell? p = some v :=
  (hb.cell (World.block_lt_of_cell? _ _ h)).trans h
/-- the blocks from B on are as they were -/
def SameUp (B : Nat) (w w2 : World) : Prop := w.heap.size ≤ w2.heap.size ∧ ∀ g, B ≤ g → g < w.heap.size → w2.heap[g]? = w.heap[g]?
/-- R holds, and leans on the blocks from B on alone -/
def Up (B : Nat) (R : World → Prop) (w : World) : Prop := ∀ w2, SameUp B w w2 → R w2
theorem Up.now {B : Nat} {R : World → Prop} {w : World} (h : Up B R w) : R w := h w ⟨Nat.le_refl _, fun _ _ _ => rfl⟩
theorem Up.below {B : Nat} {R : World → Prop} {w w' : World} (h : Up B R w) (hb : Below w.heap.size w w') : Up B R w' := fun w2 hs => h w2 ⟨Nat.le_trans hb.size hs.1, fun g h1 h2 => (hs.2 g h1 (Nat.lt_of_lt_of_le h2 hb.size)).trans (hb.block g h2)⟩
theorem Up.lower {B C : Nat} {R : World → Prop} {w : World} (h : Up B R w) (hc : C ≤ B) : Up C R w := fun w2 hs => h w2 ⟨hs.1, fun g h1 h2 => hs.2 g (Nat.le_trans hc h1) h2⟩
theorem Up.set {B : Nat} {R : World → Prop} {w : World} (h : Up B R w) (p : Addr) (v : Value) (hp : p.block < B) : Up B R (w.setCell p v) := fun w2 hs => h w2 ⟨by simpa using hs.1, fun g h1 h2 => (hs.2 g h1 (by simpa using h2)).trans (Below.heap_setCell w p v g (by omega))⟩
theorem Up.grown {B : Nat} {R : World → Prop} {w w' : World} {row : Option Nat} (h : Up B R w) (hg : w.grownBy w' row) (hr : ∀ r, row = some r → r < B) : Up B R w' := fun w2 hs => h w2 ⟨Nat.le_trans hg.size hs.1, fun g h1 h2 => (hs.2 g h1 (Nat.lt_of_lt_of_le h2 hg.size)).trans (hg.block g h2 (fun e => by have := hr g e.symm; omega))⟩
theorem cell_same {w w2 : World} {p : Addr} (h : w2.heap[p.block]? = w.heap[p.block]?) : w2.cell? p = w.cell? p := by
  unfold World.cell?; rw [h]
theorem cell_up {B : Nat} {w w2 : World} {p : Addr} {v : Value} (hs : SameUp B w w2) (hp : B ≤ p.block) (h : w.cell? p = some v) : w2.cell? p = some v :=
  (cell_same (hs.2 _ hp (World.block_lt_of_cell? _ _ h))).trans h
theorem ints_up {B : Nat} {w w2 : World} {k : IntKind} {a : Option Addr} {zs : List Int} (hs : SameUp B w w2) (hp : ∀ x, a = some x → B ≤ x.block) (h : IntsAt k w a zs) : IntsAt k w2 a zs := fun h0 => by
  obtain ⟨x, e, h1, h2⟩ := h h0
  exact ⟨x, e, Nat.lt_of_lt_of_le h1 hs.1, fun i hi => cell_up hs (by rw [block_of_add]; exact hp x e) (h2 i hi)⟩
section
variable {H : Type} {enc : TypeId × Value → H} {P : Program} {w : World} {base : Nat} {spare : Nat → Bool} {held : Bool}
theorem bulk_range {D : Nat → DataW H} {α : Type} {cost : α → Nat} (n : Nat) (Y : Nat → α) (h : ∀ i, i < n → cost (Y i) ≤ Rows.uptoBulk (D i)) : (((List.range n).map Y).map cost).sum ≤ Rows.uptoBulkAll ((List.range n).map D) := by
  have key : ∀ l : List Nat, (∀ i ∈ l, i < n) → ((l.map Y).map cost).sum ≤ Rows.uptoBulkAll (l.map D) := by
    intro l
    induction l with
    | nil => intro _; simp [Rows.uptoBulkAll]
    | cons i r ih =>
      intro hl
      have h1 := h i (hl i List.mem_cons_self)
      have h2 := ih (fun j hj => hl j (List.mem_cons_of_mem _ hj))
      simp only [List.map_cons, List.sum_cons, Rows.uptoBulkAll]
      omega
  exact key _ fun i hi => List.mem_range.1 hi
theorem read_slice {α : Type} [Inhabited α] {t e : TypeId} {sz : Nat} {E : World → Addr → α → Prop} {cost : α → Nat} (ht : P.underlying t = some (.slice e)) (hs : P.cellsOf e = sz) (h0 : 0 < sz)
    (hE : ∀ (fuel : Nat) (cs : List Value) (x : DataW H × List MemPlace) (p : Addr), cs.length = sz → (∀ j, j < sz → w.cell? (p.add j) = cs[j]?) → DataW.trod enc P w base spare held fuel e cs = some x → ∃ y, E w p y ∧ cost y ≤ Rows.uptoBulk x.1)
    {fuel : Nat} {cs : List Value} {x : DataW H × List MemPlace} (h : DataW.trod enc P w base spare held fuel t cs = some x) :
    ∃ (a : Option Addr) (l : List α) (cap : Nat), cs = [.slice a l.length cap] ∧ l.length ≤ cap ∧ cap ≤ maxLen ∧ SlAt sz E w a l ∧ (l.map cost).sum + 1 ≤ Rows.uptoBulk x.1 := by
  rcases open_slice ht h with ⟨rfl, rfl⟩ | ⟨a, n, cap, m, n2, D, Pl, rfl, _, hl, hm, hmm, rfl, hi⟩
  · exact ⟨none, [], 0, rfl, Nat.le_refl _, Nat.zero_le _, fun hh => by simp at hh, by simp [Rows.uptoBulk]⟩
  · have hnm : n ≤ m := by rw [hmm]; split <;> omega
    have key : ∀ i, i < n → ∃ y, E w (a.add (i * sz)) y ∧ cost y ≤ Rows.uptoBulk (D i) := by
      intro i hin
      obtain ⟨cs', hc, htr⟩ := hi i (by omega)
      obtain ⟨_, hcl, hat⟩ := World.cells?_some hc
      rw [hs] at hcl hat
      exact hE _ cs' _ (a.add (i * sz)) hcl (fun j hj => hat j hj) htr
    obtain ⟨Y, hY⟩ := choose_lt key
    refine ⟨some a, (List.range n).map Y, cap, by simp, by simpa using hl, hm, fun hh => ?_, ?_⟩
    · rw [List.length_map, List.length_range] at hh
      refine ⟨a, rfl, ?_, fun i hi' => ?_⟩
      · obtain ⟨cs', hc, _⟩ := hi 0 (by omega)
        obtain ⟨_, hcl, hat⟩ := World.cells?_some hc
        have h1 := hat 0 (by rw [hs]; exact h0)
        rw [List.getElem?_eq_getElem (by rw [hcl, hs]; exact h0)] at h1
        have := World.block_lt_of_cell? _ _ h1
        simpa [block_of_add] using this
      · rw [List.length_map, List.length_range] at hi'
        simpa using (hY i hi').1
    · have := bulk_range n Y (fun i hi => (hY i hi).2)
      simp only [Rows.uptoBulk]
      omega
end
end Go.Proofs.Ytncnbfefciobcaa
end
/- The bulk of a part of a struct. -/
section
namespace Go.Proofs.Ytncnbfefciobcaa
open Go.RowKit Go.ChangeShapes Go.WideShapes Go.Deep Go.Mem
set_option linter.unusedVariables false
section
variable {H : Type} {enc : TypeId × Value → H} {w : World} {base : Nat} {spare : Nat → Bool} {held : Bool}
theorem agg_bulk {xs : List (DataW H × List MemPlace)} {i : Nat} {y : DataW H × List MemPlace} (h : xs[i]? = some y) : Rows.uptoBulk y.1 + 1 ≤ Rows.uptoBulk (.agg (xs.map (·.1))) := by
  have hm : y.1 ∈ xs.map (·.1) := List.mem_map.2 ⟨y, List.mem_of_getElem? h, rfl⟩
  have := Bulk.mem hm
  simp only [Rows.uptoBulk]
  omega
end
end Go.Proofs.Ytncnbfefciobcaa
end
/- Names: what kind.Name and the reference's IsName say of a string. No program is named here. -/
section
namespace Go.Nm
set_option linter.unusedVariables false
def alpha : List UInt8 := [97, 98, 99, 100, 101, 102, 103, 104, 105, 106, 107, 108, 109, 110, 111, 112, 113, 114, 115, 116, 117, 118, 119, 120, 121, 122, 48, 49, 50, 51, 52, 53, 54, 55, 56, 57]
def lowB (c : UInt8) : Bool := decide (97 ≤ c.toNat) && decide (c.toNat ≤ 122)
def digB (c : UInt8) : Bool := decide (48 ≤ c.toNat) && decide (c.toNat ≤ 57)
def nameB (l : List UInt8) : Bool := decide (0 < l.length) && (decide (l.length ≤ 16) && (lowB (l.getD 0 0) && l.all (fun c => lowB c || digB c)))
theorem alpha_fin : ∀ n : Fin 256, alpha.contains (UInt8.ofNat n.val) = (lowB (UInt8.ofNat n.val) || digB (UInt8.ofNat n.val)) := by decide +kernel
theorem alpha_iff (c : UInt8) : alpha.contains c = (lowB c || digB c) := by
  have := alpha_fin ⟨c.toNat, c.toNat_lt⟩
  simpa using this
theorem dropWhile_nil {α : Type} (p : α → Bool) (l : List α) : l.dropWhile p = [] ↔ l.all p = true := by
  induction l with
  | nil => simp
  | cons a l ih =>
    rw [List.dropWhile_cons]
    by_cases h : p a = true
    · rw [if_pos h, ih]; simp [h]
    · rw [if_neg h]; simp [h]
theorem trim_nil (l cs : List UInt8) : Lib.trimS l cs = [] ↔ l.all (cs.contains ·) = true := by
  unfold Lib.trimS Lib.trimLeftS
  rw [dropWhile_nil]
  unfold Lib.trimRightS
  constructor
  · intro h
    by_cases hr : l.reverse.dropWhile (cs.contains ·) = []
    · have := (dropWhile_nil _ _).1 hr
      simpa using this
    · exfalso
      obtain ⟨b, t, hbt⟩ := List.exists_cons_of_ne_nil hr
      have h1 : cs.contains b = false := by
        have := List.head?_dropWhile_not (p := (cs.contains ·)) (l := l.reverse)
        rw [hbt] at this
        simpa using this
      rw [hbt] at h
      simp at h
      have := h.2
      simp at h1
      exact h1 this
  · intro h
    have : l.reverse.dropWhile (cs.contains ·) = [] := (dropWhile_nil _ _).2 (by simpa using h)
    rw [this]; rfl
theorem name_ref (l : List UInt8) (h0 : 0 < l.length) (h1 : l.length ≤ 16) (h2 : Lib.trimS l alpha = []) : nameB l = decide (57 < (l.getD 0 0).toNat) := by
  have ha := (trim_nil l alpha).1 h2
  have hb : l.all (fun c => lowB c || digB c) = true := by
    rw [List.all_eq_true] at ha ⊢
    intro c hc
    rw [← alpha_iff]; exact ha c hc
  unfold nameB
  rw [hb, decide_eq_true h0, decide_eq_true h1, Bool.true_and, Bool.true_and, Bool.and_true]
  have hm : l.getD 0 0 ∈ l := by
    rw [List.getD_eq_getElem?_getD, List.getElem?_eq_getElem h0]; exact List.getElem_mem h0
  have hc := List.all_eq_true.1 hb _ hm
  generalize l.getD 0 0 = c at hc ⊢
  unfold lowB digB at *
  rw [Bool.eq_iff_iff]
  simp only [Bool.or_eq_true, Bool.and_eq_true, decide_eq_true_eq] at hc ⊢
  omega
theorem name_trim (l : List UInt8) (h2 : Lib.trimS l alpha ≠ []) : nameB l = false := by
  have : l.all (fun c => lowB c || digB c) = false := by
    rw [Bool.eq_false_iff]
    intro hb
    refine h2 ((trim_nil l alpha).2 ?_)
    rw [List.all_eq_true] at hb ⊢
    intro c hc
    rw [alpha_iff]; exact hb c hc
  unfold nameB
  rw [this]; simp
theorem name_long (l : List UInt8) (h : 16 < l.length) : nameB l = false := by unfold nameB; rw [decide_eq_false (show ¬ l.length ≤ 16 by omega)]; simp
theorem name_nil (l : List UInt8) (h : l.length = 0) : nameB l = false := by unfold nameB; rw [decide_eq_false (show ¬ 0 < l.length by omega)]; simp
/-- the code's test at place i -/
def okAt (l : List UInt8) (i : Nat) : Bool := lowB (l.getD i 0) || (decide (0 < i) && digB (l.getD i 0))
theorem name_bad (l : List UInt8) (i : Nat) (h : i < l.length) (hb : okAt l i = false) : nameB l = false := by
  have hm : l.getD i 0 ∈ l := by
    rw [List.getD_eq_getElem?_getD, List.getElem?_eq_getElem h]; exact List.getElem_mem h
  unfold okAt at hb
  by_cases hi : 0 < i
  · rw [decide_eq_true hi, Bool.true_and] at hb
    have : l.all (fun c => lowB c || digB c) = false := by
      rw [Bool.eq_false_iff]
      intro ha
      have := List.all_eq_true.1 ha _ hm
      rw [hb] at this
      exact absurd this (by decide)
    unfold nameB; rw [this]; simp
  · have h0 : i = 0 := by omega
    subst h0
    rw [decide_eq_false (by omega), Bool.false_and, Bool.or_false] at hb
    unfold nameB; rw [hb]; simp
theorem name_good (l : List UInt8) (h0 : 0 < l.length) (h1 : l.length ≤ 16) (h : ∀ i, i < l.length → okAt l i = true) : nameB l = true := by
  unfold nameB
  rw [decide_eq_true h0, decide_eq_true h1, Bool.true_and, Bool.true_and, Bool.and_eq_true]
  constructor
  · have := h 0 h0
    unfold okAt at this
    rw [decide_eq_false (by omega), Bool.false_and, Bool.or_false] at this
    exact this
  · rw [List.all_eq_true]
    intro c hc
    obtain ⟨i, hi, rfl⟩ := List.mem_iff_getElem.1 hc
    have := h i hi
    unfold okAt at this
    rw [List.getD_eq_getElem?_getD, List.getElem?_eq_getElem hi] at this
    simp only [Option.getD_some, Bool.or_eq_true, Bool.and_eq_true] at this ⊢
    rcases this with h | h
    · exact .inl h
    · exact .inr h.2
end Go.Nm
end
/- kind.Name. -/
section
namespace Go.Proofs.Ytncnbfefciobcaa
open Go.ChangeShapes Go.WideShapes Go.ChangeAt Go.RowKit Go.Nm
set_option linter.unusedVariables false
theorem dle_t {a b : Int} (h : a ≤ b) : decide (a ≤ b) = true := decide_eq_true h
theorem dle_f {a b : Int} (h : ¬ a ≤ b) : decide (a ≤ b) = false := decide_eq_false h
theorem len_data (s : ByteArray) : s.data.toList.length = s.size := rfl
set_option maxHeartbeats 1000000 in
theorem kind_Name (s : ByteArray) (hs : s.size ≤ 9223372036854775807) (w : World) : Calls Try.prog 60 #[.string s] w fun e w' => e = .returned (.bool (nameB s.data.toList)) ∧ w = w' := by
  obtain ⟨R, hR⟩ : ∃ R, R = nameB s.data.toList := ⟨_, rfl⟩
  rw [← hR]
  have HR := Lib.hid hR
  clear hR
  by_cases h0 : s.size = 0
  · have t0 : ((s.size : Int) == 0) = true := by rw [h0]; rfl
    have HF := Lib.hid (name_nil _ ((len_data s).trans h0))
    clear h0 hs
    go_enter Try.func60, Try.ntmps60
    go_wp2_with fail
    go_ret
    exact ⟨by rw [HR.out, HF.out]; rfl, rfl⟩
  · by_cases h1 : 16 < s.size
    · have t0 : ((s.size : Int) == 0) = false := by rw [beq_eq_false_iff_ne]; omega
      have HF := Lib.hid (name_long _ (by rw [len_data]; exact h1))
      go_enter Try.func60, Try.ntmps60
      go_wp2_with fail
      go_ret
      exact ⟨by rw [HR.out, HF.out]; rfl, rfl⟩
    · have t0 : ((s.size : Int) == 0) = false := by rw [beq_eq_false_iff_ne]; omega
      have h2 : s.size ≤ 16 := by omega
      go_enter Try.func60, Try.ntmps60
      go_wp2_with fail
      go_loopg [3, 4, 15] s.size (fun gk v3 v4 vi wx => ∃ k : Nat, k ≤ s.size ∧ gk = s.size - k ∧ vi = .int .i64 k ∧ (∀ j, j < k → okAt s.data.toList j = true) ∧ wx = w)
      case atStart => exact ⟨0, Nat.zero_le _, rfl, rfl, fun j h => by omega, rfl⟩
      case round =>
        obtain ⟨k, hk, g2, rfl, hok, rfl⟩ := hrel
        have G2 := Lib.hid g2
        have HOK := Lib.hid hok
        clear g2 hok
        by_cases hlt : k < s.size
        · have hb : s.data.toList.getD k 0 = s[k] := by
            rw [List.getD_eq_getElem?_getD, List.getElem?_eq_getElem hlt]; rfl
          have hn : s[k].toNat < 256 := s[k].toNat_lt
          have HB := Lib.hid hb
          clear hb
          have good : okAt s.data.toList k = true → ∀ j, j < k + 1 → okAt s.data.toList j = true := fun h j hj => by
            by_cases hj2 : j < k
            · exact HOK.out j hj2
            · rw [show j = k by omega]; exact h
          have GOOD := Lib.hid good
          clear good
          by_cases c1 : 97 ≤ s[k].toNat ∧ s[k].toNat ≤ 122
          · obtain ⟨a1, a2⟩ := c1
            have HO := Lib.hid (show okAt s.data.toList k = true by unfold okAt lowB; rw [HB.out, decide_eq_true a1, decide_eq_true a2]; rfl)
            go_wp2_with fail
            go_roundg (s.size - (k + 1))
            case measure => rw [G2.out]; omega
            case rel => exact ⟨k + 1, hlt, rfl, by go_num, GOOD.out HO.out, rfl⟩
          · by_cases c2 : 0 < k ∧ 48 ≤ s[k].toNat ∧ s[k].toNat ≤ 57
            · obtain ⟨a0, a1, a2⟩ := c2
              have HO := Lib.hid (show okAt s.data.toList k = true by unfold okAt digB; rw [HB.out, decide_eq_true a1, decide_eq_true a2, decide_eq_true a0]; simp)
              clear c1
              have t97 : decide ((97 : Int) ≤ (s[k].toNat : Int)) = false := dle_f (by omega)
              have t122 : decide ((s[k].toNat : Int) ≤ 122) = true := dle_t (by omega)
              have t48 : decide ((48 : Int) ≤ (s[k].toNat : Int)) = true := dle_t (by omega)
              have t57 : decide ((s[k].toNat : Int) ≤ 57) = true := dle_t (by omega)
              go_wp2_with fail
              go_roundg (s.size - (k + 1))
              case measure => rw [G2.out]; omega
              case rel => exact ⟨k + 1, hlt, rfl, by go_num, GOOD.out HO.out, rfl⟩
            · have HO := Lib.hid (show okAt s.data.toList k = false by
                unfold okAt lowB digB
                rw [HB.out, Bool.eq_false_iff]
                intro h
                simp only [Bool.or_eq_true, Bool.and_eq_true, decide_eq_true_eq] at h
                rcases h with h | h
                · exact c1 h
                · exact c2 h)
              have HF := Lib.hid (name_bad _ k (by rw [len_data]; exact hlt) HO.out)
              rcases (show (s[k].toNat < 48) ∨ (57 < s[k].toNat ∧ s[k].toNat < 97) ∨ 122 < s[k].toNat ∨ (k = 0 ∧ 48 ≤ s[k].toNat ∧ s[k].toNat ≤ 57) by omega) with c | ⟨c, c'⟩ | c | ⟨c0, c, c'⟩
              · clear c1 c2
                have t97 : decide ((97 : Int) ≤ (s[k].toNat : Int)) = false := dle_f (by omega)
                have t122 : decide ((s[k].toNat : Int) ≤ 122) = true := dle_t (by omega)
                have t48 : decide ((48 : Int) ≤ (s[k].toNat : Int)) = false := dle_f (by omega)
                have t57 : decide ((s[k].toNat : Int) ≤ 57) = true := dle_t (by omega)
                go_wp2_with fail
                all_goals
                  go_ret
                  exact ⟨by rw [HR.out, HF.out]; rfl, rfl⟩
              · clear c1 c2
                have t97 : decide ((97 : Int) ≤ (s[k].toNat : Int)) = false := dle_f (by omega)
                have t122 : decide ((s[k].toNat : Int) ≤ 122) = true := dle_t (by omega)
                have t48 : decide ((48 : Int) ≤ (s[k].toNat : Int)) = true := dle_t (by omega)
                have t57 : decide ((s[k].toNat : Int) ≤ 57) = false := dle_f (by omega)
                go_wp2_with fail
                all_goals
                  go_ret
                  exact ⟨by rw [HR.out, HF.out]; rfl, rfl⟩
              · clear c1 c2
                have t97 : decide ((97 : Int) ≤ (s[k].toNat : Int)) = true := dle_t (by omega)
                have t122 : decide ((s[k].toNat : Int) ≤ 122) = false := dle_f (by omega)
                have t48 : decide ((48 : Int) ≤ (s[k].toNat : Int)) = true := dle_t (by omega)
                have t57 : decide ((s[k].toNat : Int) ≤ 57) = false := dle_f (by omega)
                go_wp2_with fail
                all_goals
                  go_ret
                  exact ⟨by rw [HR.out, HF.out]; rfl, rfl⟩
              · clear c1 c2
                have t97 : decide ((97 : Int) ≤ (s[k].toNat : Int)) = false := dle_f (by omega)
                have t122 : decide ((s[k].toNat : Int) ≤ 122) = true := dle_t (by omega)
                have t48 : decide ((48 : Int) ≤ (s[k].toNat : Int)) = true := dle_t (by omega)
                have t57 : decide ((s[k].toNat : Int) ≤ 57) = true := dle_t (by omega)
                have ck : k ≤ 0 := by omega
                clear c0
                go_wp2_with fail
                all_goals
                  go_ret
                  exact ⟨by rw [HR.out, HF.out]; rfl, rfl⟩
        · have hke : k = s.size := by omega
          have HF := Lib.hid (name_good s.data.toList (by rw [len_data]; omega) (by rw [len_data]; exact h2) (fun i hi => HOK.out i (by rw [len_data] at hi; omega)))
          clear hke
          go_wp2_with fail
          go_ret
          exact ⟨by rw [HR.out, HF.out]; rfl, rfl⟩
end Go.Proofs.Ytncnbfefciobcaa
end
/- kind.field, High, Near; ref FieldOK, Top, Nearest. -/
section
namespace Go.Proofs.Ytncnbfefciobcaa
open Go.ChangeShapes Go.WideShapes Go.ChangeAt Go.RowKit Go.Nm
set_option linter.unusedVariables false
def fieldB (s : ByteArray) (b l : Int) : Bool := nameB s.data.toList && (decide (1 ≤ b) && (decide (b ≤ 32) && (decide (-4294967296 ≤ l) && decide (l ≤ 4294967296))))
theorem field_cases (s : ByteArray) (b l : Int) : (fieldB s b l = true ∧ nameB s.data.toList = true ∧ 1 ≤ b ∧ b ≤ 32 ∧ -4294967296 ≤ l ∧ l ≤ 4294967296) ∨
    (fieldB s b l = false ∧ (nameB s.data.toList = false ∨ (nameB s.data.toList = true ∧ b < 1) ∨ (nameB s.data.toList = true ∧ 1 ≤ b ∧ 32 < b) ∨ (nameB s.data.toList = true ∧ 1 ≤ b ∧ b ≤ 32 ∧ l < -4294967296) ∨ (nameB s.data.toList = true ∧ 1 ≤ b ∧ b ≤ 32 ∧ -4294967296 ≤ l ∧ 4294967296 < l))) := by
  unfold fieldB
  cases nameB s.data.toList
  · right; simp
  · by_cases h1 : 1 ≤ b
    · by_cases h2 : b ≤ 32
      · by_cases h3 : -4294967296 ≤ l
        · by_cases h4 : l ≤ 4294967296
          · left; simp [h1, h2, h3, h4]
          · right; simp [h1, h2, h3, h4]; omega
        · right; simp [h1, h2, h3]; omega
      · right; simp [h1, h2]; omega
    · right; simp [h1]; omega
set_option maxHeartbeats 1000000 in
theorem kind_field (s : ByteArray) (b l : Int) (hs : s.size ≤ 9223372036854775807) (w : World) : Calls Try.prog 61 #[.agg #[.string s, .int .i64 b, .int .i64 l]] w fun e w' => e = .returned (.int .i64 (if fieldB s b l = true then 0 else 3)) ∧ Below w.heap.size w w' := by
  have HS := Lib.hid hs
  clear hs
  rcases field_cases s b l with ⟨hf, hn, h1, h2, h3, h4⟩ | ⟨hf, hn | ⟨hn, h1⟩ | ⟨hn, h1, h2⟩ | ⟨hn, h1, h2, h3⟩ | ⟨hn, h1, h2, h3, h4⟩⟩
  all_goals
    rw [hf]
    have C := fun W => kind_Name s HS.out W
    rw [hn] at C
    have C := Lib.hid C
    clear hf hn
    go_enter Try.func61, Try.ntmps61
    go_wp2_with fail
    refine (C.out _).mono ?_
    rintro e w1 ⟨rfl, rfl⟩
    go_wp2_with fail
    go_ret
    exact ⟨rfl, (Below.refl _ _).alloc (Nat.le_refl _) _⟩
end Go.Proofs.Ytncnbfefciobcaa
end
/- Fields and kinds as they lie in memory; the errors of a kind, as the document has them. -/
section
namespace Go.Proofs.Ytncnbfefciobcaa
open Go.RowKit Go.ChangeShapes Go.WideShapes Go.Deep Go.Mem Go.Nm
set_option linter.unusedVariables false
structure FieldV where
  name : ByteArray
  bits : Int
  low : Int
instance : Inhabited FieldV := ⟨⟨ByteArray.empty, 0, 0⟩⟩
structure KindV where
  name : ByteArray
  fields : List FieldV
instance : Inhabited KindV := ⟨⟨ByteArray.empty, []⟩⟩
def FieldAt (w : World) (p : Addr) (y : FieldV) : Prop := w.cell? p = some (.string y.name) ∧ w.cell? ⟨p.block, p.off + 1, none⟩ = some (.int .i64 y.bits) ∧ w.cell? ⟨p.block, p.off + 2, none⟩ = some (.int .i64 y.low) ∧ y.name.size ≤ 9223372036854775807
theorem FieldAt.abides : Abides FieldAt := fun w w' p y h hb => ⟨cell_abides h.1 hb, cell_abides h.2.1 hb, cell_abides h.2.2.1 hb, h.2.2.2⟩
def KindAt (w : World) (p : Addr) (y : KindV) : Prop := w.cell? p = some (.string y.name) ∧ y.name.size ≤ 9223372036854775807 ∧ ∃ a c, w.cell? ⟨p.block, p.off + 1, none⟩ = some (.slice a y.fields.length c) ∧ y.fields.length ≤ c ∧ c ≤ 9223372036854775807 ∧ SlAt 3 FieldAt w a y.fields
theorem KindAt.abides : Abides KindAt := fun w w' p y h hb => by
  obtain ⟨h1, h2, a, c, h3, h4, h5, h6⟩ := h
  exact ⟨cell_abides h1 hb, h2, a, c, cell_abides h3 hb, h4, h5, h6.below FieldAt.abides hb⟩
def costField (y : FieldV) : Nat := y.name.size + 1
def costKind (y : KindV) : Nat := y.name.size + (y.fields.map costField).sum + 1
section
variable {H : Type} {enc : TypeId × Value → H} {w : World} {base : Nat} {spare : Nat → Bool} {held : Bool}
theorem str_bulk (s : ByteArray) : Rows.uptoBulk (DataW.lit (H := H) (.string s.data.toList)) = s.size + 1 := by simp only [Rows.uptoBulk]; rfl
set_option maxRecDepth 100000 in
theorem read_field (fuel : Nat) (cs : List Value) (x : DataW H × List MemPlace) (p : Addr) (hl : cs.length = 3) (hc : ∀ j, j < 3 → w.cell? (p.add j) = cs[j]?) (ht : DataW.trod enc Try.prog w base spare held fuel 50 cs = some x) : ∃ y, FieldAt w p y ∧ costField y ≤ Rows.uptoBulk x.1 := by
  obtain ⟨xs, n, _, rfl, _, hxl, hf⟩ := DataW.trod_struct Try.underlying50 ht
  match cs, hl with
  | [v0, v1, v2], _ =>
    have g0 : DataW.trod enc Try.prog w base spare held n 9 (([v0, v1, v2].drop 0).take (Try.prog.cellsOf 9)) = xs[0]? := hf 0 _ rfl
    have g1 : DataW.trod enc Try.prog w base spare held n 3 (([v0, v1, v2].drop 1).take (Try.prog.cellsOf 3)) = xs[1]? := hf 1 _ rfl
    have g2 : DataW.trod enc Try.prog w base spare held n 3 (([v0, v1, v2].drop 2).take (Try.prog.cellsOf 3)) = xs[2]? := hf 2 _ rfl
    rw [show Try.prog.cellsOf 9 = 1 by kernel_rfl] at g0
    rw [show Try.prog.cellsOf 3 = 1 by kernel_rfl] at g1 g2
    match xs, hxl with
    | [y0, y1, y2], _ =>
      obtain ⟨s, e0, hx0, hs⟩ := DataW.trod_string Try.underlying9 (show DataW.trod enc Try.prog w base spare held n 9 [v0] = some y0 from g0)
      obtain ⟨z1, e1, _, _⟩ := DataW.trod_int Try.underlying3 (show DataW.trod enc Try.prog w base spare held n 3 [v1] = some y1 from g1)
      obtain ⟨z2, e2, _, _⟩ := DataW.trod_int Try.underlying3 (show DataW.trod enc Try.prog w base spare held n 3 [v2] = some y2 from g2)
      injection e0 with e0; injection e1 with e1; injection e2 with e2
      subst e0 e1 e2
      have c0 := hc 0 (by decide)
      have c1 := hc 1 (by decide)
      have c2 := hc 2 (by decide)
      unfold maxLen at hs
      have hb : Rows.uptoBulk y0.1 + 1 ≤ Rows.uptoBulk (.agg ([y0, y1, y2].map (·.1))) := agg_bulk (xs := [y0, y1, y2]) (i := 0) (y := y0) rfl
      have he : Rows.uptoBulk y0.1 = s.size + 1 := by rw [hx0]; exact str_bulk s
      exact ⟨⟨s, z1, z2⟩, ⟨by simpa [Addr.add] using c0, by simpa [Addr.add] using c1, by simpa [Addr.add] using c2, by simp only; omega⟩, by unfold costField; simp only at hb ⊢; omega⟩
set_option maxRecDepth 100000 in
theorem read_fields {fuel : Nat} {cs : List Value} {x : DataW H × List MemPlace} (h : DataW.trod enc Try.prog w base spare held fuel 51 cs = some x) :
    ∃ (a : Option Addr) (l : List FieldV) (cap : Nat), cs = [.slice a l.length cap] ∧ l.length ≤ cap ∧ cap ≤ maxLen ∧ SlAt 3 FieldAt w a l ∧ (l.map costField).sum + 1 ≤ Rows.uptoBulk x.1 :=
  read_slice Try.underlying51 (by kernel_rfl) (by decide) read_field h
set_option maxRecDepth 100000 in
theorem read_kind (fuel : Nat) (cs : List Value) (x : DataW H × List MemPlace) (p : Addr) (hl : cs.length = 2) (hc : ∀ j, j < 2 → w.cell? (p.add j) = cs[j]?) (ht : DataW.trod enc Try.prog w base spare held fuel 53 cs = some x) : ∃ y, KindAt w p y ∧ costKind y ≤ Rows.uptoBulk x.1 := by
  obtain ⟨xs, n, _, rfl, _, hxl, hf⟩ := DataW.trod_struct Try.underlying53 ht
  match cs, hl with
  | [v0, v1], _ =>
    have g0 : DataW.trod enc Try.prog w base spare held n 9 (([v0, v1].drop 0).take (Try.prog.cellsOf 9)) = xs[0]? := hf 0 _ rfl
    have g1 : DataW.trod enc Try.prog w base spare held n 51 (([v0, v1].drop 1).take (Try.prog.cellsOf 51)) = xs[1]? := hf 1 _ rfl
    rw [show Try.prog.cellsOf 9 = 1 by kernel_rfl] at g0
    rw [show Try.prog.cellsOf 51 = 1 by kernel_rfl] at g1
    match xs, hxl with
    | [y0, y1], _ =>
      obtain ⟨s, e0, hx0, hs⟩ := DataW.trod_string Try.underlying9 (show DataW.trod enc Try.prog w base spare held n 9 [v0] = some y0 from g0)
      obtain ⟨a, l, cap, e1, q1, q2, q3, q4⟩ := read_fields (show DataW.trod enc Try.prog w base spare held n 51 [v1] = some y1 from g1)
      injection e0 with e0; injection e1 with e1
      subst e0 e1
      have c0 := hc 0 (by decide)
      have c1 := hc 1 (by decide)
      unfold maxLen at hs q2
      have hb : Rows.uptoBulk y0.1 + (Rows.uptoBulk y1.1 + 1) ≤ Rows.uptoBulk (.agg ([y0, y1].map (·.1))) := by
        simp only [List.map_cons, List.map_nil, Rows.uptoBulk, Rows.uptoBulkAll]; omega
      have he : Rows.uptoBulk y0.1 = s.size + 1 := by rw [hx0]; exact str_bulk s
      exact ⟨⟨s, l⟩, ⟨by simpa [Addr.add] using c0, by simp only; omega, a, cap, by simpa [Addr.add] using c1, q1, by omega, q3⟩, by unfold costKind; simp only at hb ⊢; omega⟩
set_option maxRecDepth 100000 in
theorem read_kinds {fuel : Nat} {cs : List Value} {x : DataW H × List MemPlace} (h : DataW.trod enc Try.prog w base spare held fuel 24 cs = some x) :
    ∃ (a : Option Addr) (l : List KindV) (cap : Nat), cs = [.slice a l.length cap] ∧ l.length ≤ cap ∧ cap ≤ maxLen ∧ SlAt 2 KindAt w a l ∧ (l.map costKind).sum + 1 ≤ Rows.uptoBulk x.1 :=
  read_slice Try.underlying24 (by kernel_rfl) (by decide) read_kind h
end
/-- is one of the first i names the one of place i? -/
def okF (f : FieldV) : Bool := fieldB f.name f.bits f.low
def dupAt (names : List ByteArray) (i : Nat) : Bool := (names.take i).any fun s => s.toList == (names.getD i ByteArray.empty).toList
/-- the error of the first k fields -/
def fldErr (l : List FieldV) : Nat → Int
  | 0 => 0
  | k + 1 => if fldErr l k ≠ 0 then fldErr l k else if okF (l.getD k default) = false then 3 else if dupAt (l.map (·.name)) k = true then 5 else 0
def kindE (k : KindV) : Int := if nameB k.name.data.toList = false then 3 else if 8 < k.fields.length then 2 else fldErr k.fields k.fields.length
def kndErr (l : List KindV) : Nat → Int
  | 0 => 0
  | k + 1 => if kndErr l k ≠ 0 then kndErr l k else if kindE (l.getD k default) ≠ 0 then kindE (l.getD k default) else if dupAt (l.map (·.name)) k = true then 5 else 0
def kindsE (l : List KindV) : Int := if 16 < l.length then 2 else kndErr l l.length
/-- an error stays -/
theorem fldErr_stays (l : List FieldV) (k m : Nat) (h : k ≤ m) (h0 : fldErr l k ≠ 0) : fldErr l m = fldErr l k := by
  induction m with
  | zero => obtain rfl : k = 0 := by omega
            rfl
  | succ m ih =>
    by_cases hk : k = m + 1
    · rw [hk]
    · have := ih (by omega)
      show (if fldErr l m ≠ 0 then _ else _) = _
      rw [if_pos (by rw [this]; exact h0), this]
theorem kndErr_stays (l : List KindV) (k m : Nat) (h : k ≤ m) (h0 : kndErr l k ≠ 0) : kndErr l m = kndErr l k := by
  induction m with
  | zero => obtain rfl : k = 0 := by omega
            rfl
  | succ m ih =>
    by_cases hk : k = m + 1
    · rw [hk]
    · have := ih (by omega)
      show (if kndErr l m ≠ 0 then _ else _) = _
      rw [if_pos (by rw [this]; exact h0), this]
end Go.Proofs.Ytncnbfefciobcaa
end
/- Components as they lie in memory. -/
section
namespace Go.Proofs.Ytncnbfefciobcaa
open Go.RowKit Go.ChangeShapes Go.WideShapes Go.Deep Go.Mem
set_option linter.unusedVariables false
structure CompV where
  kind : Int
  vals : List Int
  deriving Inhabited, DecidableEq
/-- a component at an address: its cells, and its numbers -/
def CompAt (w : World) (p : Addr) (y : CompV) : Prop := w.cell? p = some (.int .i64 y.kind) ∧ ∃ a c, w.cell? ⟨p.block, p.off + 1, none⟩ = some (.slice a y.vals.length c) ∧ IntsAt .i64 w a y.vals
theorem CompAt.abides : Abides CompAt := fun w w' p y h hb => by
  obtain ⟨h1, a, c, h2, h3⟩ := h
  exact ⟨cell_abides h1 hb, a, c, cell_abides h2 hb, h3.below hb⟩
def costComp (y : CompV) : Nat := y.vals.length + 1
section
variable {H : Type} {enc : TypeId × Value → H} {w : World} {base : Nat} {spare : Nat → Bool} {held : Bool}
theorem int_cost : ∀ l : List Int, (l.map fun _ => 1).sum = l.length := fun l => by induction l with | nil => rfl | cons a l ih => simp [ih]; omega
/-- a slice of ints, as a list and a bulk -/
theorem read_ints {fuel : Nat} {cs : List Value} {x : DataW H × List MemPlace} (h : DataW.trod enc Try.prog w base spare held fuel 22 cs = some x) :
    ∃ (a : Option Addr) (l : List Int) (cap : Nat), cs = [.slice a l.length cap] ∧ l.length ≤ cap ∧ cap ≤ maxLen ∧ IntsAt .i64 w a l ∧ l.length + 1 ≤ Rows.uptoBulk x.1 := by
  obtain ⟨a, l, cap, h1, h2, h3, h4, h5⟩ := read_slice (E := fun w p (z : Int) => w.cell? p = some (.int .i64 z)) (cost := fun _ => 1) Try.underlying22 (show Try.prog.cellsOf 3 = 1 by kernel_rfl) (by decide) (fun fuel cs x p hl hc ht => by
    obtain ⟨z, rfl, rfl, _⟩ := DataW.trod_int Try.underlying3 ht
    refine ⟨z, by have := hc 0 (by decide); simpa [Addr.add] using this, by simp [Rows.uptoBulk]⟩) h
  refine ⟨a, l, cap, h1, h2, h3, ?_, by rw [int_cost] at h5; exact h5⟩
  intro h0
  obtain ⟨x, e, hx, hi⟩ := h4 h0
  refine ⟨x, e, hx, fun i hi' => ?_⟩
  have := hi i hi'
  rw [Nat.mul_one] at this
  rw [this, List.getD_eq_getElem?_getD, List.getElem?_eq_getElem hi']; rfl
set_option maxRecDepth 100000 in
theorem read_comp (fuel : Nat) (cs : List Value) (x : DataW H × List MemPlace) (p : Addr) (hl : cs.length = 2) (hc : ∀ j, j < 2 → w.cell? (p.add j) = cs[j]?) (ht : DataW.trod enc Try.prog w base spare held fuel 59 cs = some x) : ∃ y, CompAt w p y ∧ costComp y ≤ Rows.uptoBulk x.1 := by
  obtain ⟨xs, n, _, rfl, _, hxl, hf⟩ := DataW.trod_struct Try.underlying59 ht
  match cs, hl with
  | [v0, v1], _ =>
    have g0 : DataW.trod enc Try.prog w base spare held n 3 (([v0, v1].drop 0).take (Try.prog.cellsOf 3)) = xs[0]? := hf 0 _ rfl
    have g1 : DataW.trod enc Try.prog w base spare held n 22 (([v0, v1].drop 1).take (Try.prog.cellsOf 22)) = xs[1]? := hf 1 _ rfl
    rw [show Try.prog.cellsOf 3 = 1 by kernel_rfl] at g0
    rw [show Try.prog.cellsOf 22 = 1 by kernel_rfl] at g1
    match xs, hxl with
    | [y0, y1], _ =>
      obtain ⟨z, e0, _, _⟩ := DataW.trod_int Try.underlying3 (show DataW.trod enc Try.prog w base spare held n 3 [v0] = some y0 from g0)
      obtain ⟨a, l, cap, e1, _, _, h4, h5⟩ := read_ints (show DataW.trod enc Try.prog w base spare held n 22 [v1] = some y1 from g1)
      injection e0 with e0; injection e1 with e1
      subst e0 e1
      have c0 := hc 0 (by decide)
      have c1 := hc 1 (by decide)
      have hb : Rows.uptoBulk y1.1 + 1 ≤ Rows.uptoBulk (.agg ([y0, y1].map (·.1))) := agg_bulk (xs := [y0, y1]) (i := 1) (y := y1) rfl
      exact ⟨⟨z, l⟩, ⟨by simpa [Addr.add] using c0, a, cap, by simpa [Addr.add] using c1, h4⟩, by unfold costComp; simp only at hb ⊢; omega⟩
set_option maxRecDepth 100000 in
theorem read_comps {fuel : Nat} {cs : List Value} {x : DataW H × List MemPlace} (h : DataW.trod enc Try.prog w base spare held fuel 60 cs = some x) :
    ∃ (a : Option Addr) (l : List CompV) (cap : Nat), cs = [.slice a l.length cap] ∧ l.length ≤ cap ∧ cap ≤ maxLen ∧ SlAt 2 CompAt w a l ∧ (l.map costComp).sum + 1 ≤ Rows.uptoBulk x.1 :=
  read_slice Try.underlying60 (by kernel_rfl) (by decide) read_comp h
end
end Go.Proofs.Ytncnbfefciobcaa
end
/- Items as they lie in memory. -/
section
namespace Go.Proofs.Ytncnbfefciobcaa
open Go.RowKit Go.ChangeShapes Go.WideShapes Go.Deep Go.Mem
set_option linter.unusedVariables false
structure ItemV where
  n : Int
  gen : Int
  comps : List CompV
  deriving Inhabited, DecidableEq
def ItemAt (w : World) (p : Addr) (y : ItemV) : Prop := w.cell? p = some (.int .i64 y.n) ∧ w.cell? ⟨p.block, p.off + 1, none⟩ = some (.int .i64 y.gen) ∧
  ∃ a c, w.cell? ⟨p.block, p.off + 2, none⟩ = some (.slice a y.comps.length c) ∧ SlAt 2 CompAt w a y.comps
theorem ItemAt.abides : Abides ItemAt := fun w w' p y h hb => by
  obtain ⟨h1, h2, a, c, h5, h6⟩ := h
  exact ⟨cell_abides h1 hb, cell_abides h2 hb, a, c, cell_abides h5 hb, h6.below CompAt.abides hb⟩
def costItem (y : ItemV) : Nat := (y.comps.map costComp).sum + 1
section
variable {H : Type} {enc : TypeId × Value → H} {w : World} {base : Nat} {spare : Nat → Bool} {held : Bool}
set_option maxRecDepth 100000 in
theorem read_item (fuel : Nat) (cs : List Value) (x : DataW H × List MemPlace) (p : Addr) (hl : cs.length = 3) (hc : ∀ j, j < 3 → w.cell? (p.add j) = cs[j]?) (ht : DataW.trod enc Try.prog w base spare held fuel 70 cs = some x) : ∃ y, ItemAt w p y ∧ costItem y ≤ Rows.uptoBulk x.1 := by
  obtain ⟨xs, n, _, rfl, _, hxl, hf⟩ := DataW.trod_struct Try.underlying70 ht
  match cs, hl with
  | [v1, v2, v4], _ =>
    have g1 : DataW.trod enc Try.prog w base spare held n 55 (([v1, v2, v4].drop 0).take (Try.prog.cellsOf 55)) = xs[0]? := hf 0 _ rfl
    have g3 : DataW.trod enc Try.prog w base spare held n 60 (([v1, v2, v4].drop 2).take (Try.prog.cellsOf 60)) = xs[1]? := hf 1 _ rfl
    rw [show Try.prog.cellsOf 55 = 2 by kernel_rfl] at g1
    rw [show Try.prog.cellsOf 60 = 1 by kernel_rfl] at g3
    match xs, hxl with
    | [y1, y3], _ =>
      obtain ⟨us, m, _, _, _, hul, hu⟩ := DataW.trod_struct Try.underlying55 (show DataW.trod enc Try.prog w base spare held n 55 [v1, v2] = some y1 from g1)
      have u0 : DataW.trod enc Try.prog w base spare held m 3 (([v1, v2].drop 0).take (Try.prog.cellsOf 3)) = us[0]? := hu 0 _ rfl
      have u1 : DataW.trod enc Try.prog w base spare held m 3 (([v1, v2].drop 1).take (Try.prog.cellsOf 3)) = us[1]? := hu 1 _ rfl
      rw [show Try.prog.cellsOf 3 = 1 by kernel_rfl] at u0 u1
      match us, hul with
      | [q0, q1], _ =>
        obtain ⟨n0, f0, _, _⟩ := DataW.trod_int Try.underlying3 (show DataW.trod enc Try.prog w base spare held m 3 [v1] = some q0 from u0)
        obtain ⟨n1, f1, _, _⟩ := DataW.trod_int Try.underlying3 (show DataW.trod enc Try.prog w base spare held m 3 [v2] = some q1 from u1)
        obtain ⟨a, l, cap, e3, _, _, h4, h5⟩ := read_comps (show DataW.trod enc Try.prog w base spare held n 60 [v4] = some y3 from g3)
        injection e3 with e3; injection f0 with f0; injection f1 with f1
        subst e3 f0 f1
        have c0 := hc 0 (by decide)
        have c1 := hc 1 (by decide)
        have c2 := hc 2 (by decide)
        have hb : Rows.uptoBulk y3.1 + 1 ≤ Rows.uptoBulk (.agg ([y1, y3].map (·.1))) := agg_bulk (xs := [y1, y3]) (i := 1) (y := y3) rfl
        exact ⟨⟨n0, n1, l⟩, ⟨by simpa [Addr.add] using c0, by simpa [Addr.add] using c1, a, cap, by simpa [Addr.add] using c2, h4⟩, by unfold costItem; simp only at hb ⊢; omega⟩
set_option maxRecDepth 100000 in
theorem read_items {fuel : Nat} {cs : List Value} {x : DataW H × List MemPlace} (h : DataW.trod enc Try.prog w base spare held fuel 25 cs = some x) :
    ∃ (a : Option Addr) (l : List ItemV) (cap : Nat), cs = [.slice a l.length cap] ∧ l.length ≤ cap ∧ cap ≤ maxLen ∧ SlAt 3 ItemAt w a l ∧ (l.map costItem).sum + 1 ≤ Rows.uptoBulk x.1 :=
  read_slice Try.underlying25 (by kernel_rfl) (by decide) read_item h
end
end Go.Proofs.Ytncnbfefciobcaa
end
