/- Lemmas for the law TopSlotWorld: WFind, OwnK, DelM, OwnC, OwnW. No conditions. -/
import Derived.Test.YtpilpkbblkhnaaaM17
import Derived.Test.YtpilpkbblkhnaaaM10
import Derived.Test.YtpilpkbblkhnaaaM15
import Derived.Deep.LoopGhost
import Derived.Test.YtpilpkbblkhnaaaM20
import Derived.Test.YtpilpkbblkhnaaaM03
import Derived.Lib.SliceRun
import Derived.Lib.SlicesDelete
/- world.Find. -/
section
namespace Go.Proofs.Ytpilpkbblkhnaaa
open Go.ChangeShapes Go.WideShapes Go.ChangeAt Go.RowKit Go.Nm Go.Mem
set_option linter.unusedVariables false
def isEntI (p q : Int) (y : ItemV) : Bool := decide (y.n = p) && decide (y.gen = q)
/-- the index of the first item of an entity, or -1 -/
def IdxF (l : List ItemV) (p q : Int) (K : Int) : Prop := (∃ i, ∃ h : i < l.length, K = (i : Int) ∧ isEntI p q l[i] = true ∧ ∀ j (h : j < l.length), j < i → isEntI p q l[j] = false) ∨ (K = -1 ∧ ∀ j (h : j < l.length), isEntI p q l[j] = false)
theorem eqEntF (a b c d : Int) (w : World) : (Op.equalIn 10000 30 (.agg #[.int .i64 a, .int .i64 b]) (.agg #[.int .i64 c, .int .i64 d])).run Try.prog w = .ok (decide (a = c) && decide (b = d)) w := by
  have u3 := Try.underlying3
  have a3 := Try.isAgg3
  have z3 := Try.sizeOf3
  rw [show (10000 : Nat) = 9999 + 1 from rfl, Op.equalIn]
  simp only [Sem.run_bind, run_underlying Try.underlying30, Result.andThen_ok]
  go_simp
  by_cases h1 : a = c <;> by_cases h2 : b = d <;> simp [h1, h2]
def EntBox (p q : Int) (B : Nat) (W : World) : Prop := W.heap[B]? = some (.cells #[.int .i64 p, .int .i64 q] 30 (0, 0))
set_option maxHeartbeats 4000000 in
theorem clos_find (y : ItemV) (a : Option Addr) (n c : Nat) (p2 q2 : Int) (B : Nat) (W : World) (hs : EntBox p2 q2 B W) :
    Calls Try.prog 39 #[.agg #[.int .i64 y.n, .int .i64 y.gen, .slice a n c], .pointer (some ⟨B, 0, none⟩)] W fun e w' => e = .returned (.bool (isEntI p2 q2 y)) ∧ Below W.heap.size W w' := by
  have hb0 := (Below.refl W.heap.size W).alloc (Nat.le_refl _) (.cells #[.int .i64 y.n, .int .i64 y.gen, .slice a n c] 33)
  have hx := heap_below hs hb0
  have x1 := cell_of_row _ _ 0 _ _ _ hx
  have x2 := cell_of_row _ _ 1 _ _ _ hx
  have HB0 := Lib.hid hb0
  have he := eqEntF y.n y.gen p2 q2
  obtain ⟨R, hR⟩ : ∃ R, R = (decide (y.n = p2) && decide (y.gen = q2)) := ⟨_, rfl⟩
  rw [← hR] at he
  have HR := Lib.hid (show isEntI p2 q2 y = R from hR.symm)
  obtain ⟨p, hp⟩ : ∃ p, p = y.n := ⟨_, rfl⟩
  obtain ⟨q, hq⟩ : ∃ p, p = y.gen := ⟨_, rfl⟩
  rw [← hp, ← hq] at he HB0 ⊢
  rw [← hp, ← hq] at x1 x2
  clear hb0 hx hs hR hp hq
  go_enter Try.func39, Try.ntmps39
  go_wp2_with fail
  go_ret
  exact ⟨by rw [HR.out]; rfl, HB0.out⟩
set_option maxRecDepth 100000 in
set_option maxHeartbeats 4000000 in
theorem idx_find (l : List ItemV) (a : Option Addr) (n cap : Nat) (p q : Int) (B : Nat) (hn : l.length = n) (h1 : n ≤ 17592186044000) (W : World) (hz : SlAt 3 ItemAt W a l) (hs : EntBox p q B W) :
    Calls Try.prog 38 #[.slice a n cap, (.func (.func 39) #[] #[.pointer (some ⟨B, 0, none⟩)])] W fun e w' => (∃ K, e = .returned (.int .i64 K) ∧ IdxF l p q K) ∧ Below W.heap.size W w' := by
  have HN := Lib.hid hn
  have HZ := Lib.hid hz
  have HS := Lib.hid hs
  clear hn hz hs
  go_enter Try.func38, Try.ntmps38
  go_wp2_with fail
  go_loopg [5, 8] n (fun gk v5 vi wx => ∃ i : Nat, i ≤ n ∧ gk = n - i ∧ vi = .int .i64 i ∧ Hid (∀ j (h : j < l.length), j < i → isEntI p q l[j] = false) ∧ Hid (Below W.heap.size W wx))
  case atStart => exact ⟨0, Nat.zero_le _, rfl, rfl, Lib.hid (fun j h h2 => absurd h2 (by omega)), Lib.hid (Below.refl _ _)⟩
  case round =>
    obtain ⟨i, hi, g2, rfl, HAT, HB⟩ := hrel
    have G2 := Lib.hid g2
    clear g2
    by_cases hlt : i < n
    · obtain ⟨x, rfl, hx, hix⟩ := (HZ.out.below ItemAt.abides HB.out) (by rw [HN.out]; omega)
      obtain ⟨c0, c1, ac, cc, c2, _⟩ := hix i (by rw [HN.out]; exact hlt)
      obtain ⟨y, hy⟩ : ∃ y, y = l[i]'(by rw [HN.out]; exact hlt) := ⟨_, rfl⟩
      rw [← hy] at c0 c1 c2
      have HY := Lib.hid hy
      have i1 : (0 : Int) ≤ (i : Int) := by omega
      have i2 : (i : Int) < (n : Int) := by omega
      clear hix hy
      have HC := Lib.hid (clos_find y ac y.comps.length cc p q B wr (heap_below HS.out HB.out))
      obtain ⟨r, hr⟩ : ∃ r, r = isEntI p q y := ⟨_, rfl⟩
      rw [← hr] at HC
      rw [HY.out] at hr
      have HR2 := Lib.hid hr
      clear hr
      go_wp2_with fail
      refine HC.out.mono ?_
      rintro e w1 ⟨rfl, hb1⟩
      have HB2 := Lib.hid (HB.out.trans (hb1.mono HB.out.size))
      clear hb1 HC
      cases r
      · have HE := Lib.hid HR2.out.symm
        go_wp2_with fail
        go_roundg (n - (i + 1))
        case measure => rw [G2.out]; omega
        case rel => exact ⟨i + 1, hlt, rfl, by go_num, Lib.hid (fun j h hj => by
          by_cases hji : j < i
          · exact HAT.out j h hji
          · obtain rfl : j = i := by omega
            exact HE.out), HB2⟩
      · go_wp2_with fail
        go_ret
        exact ⟨⟨_, rfl, Or.inl ⟨i, by rw [HN.out]; exact hlt, rfl, HR2.out.symm, fun j h hj => HAT.out j h hj⟩⟩, HB2.out⟩
    · go_wp2_with fail
      go_ret
      exact ⟨⟨_, rfl, Or.inr ⟨rfl, fun j hj => HAT.out j hj (by rw [HN.out] at hj; omega)⟩⟩, HB.out⟩
set_option maxHeartbeats 4000000 in
theorem world_Find (y : WorldV) (v : Value) (p q : Int) (W : World) (hv : WorldIn W v y) (hsm : SmallW y) :
    Calls Try.prog 13 #[v, .agg #[.int .i64 p, .int .i64 q]] W fun e w' => (∃ K, e = .returned (.int .i64 K) ∧ IdxF y.items p q K) ∧ Below W.heap.size W w' := by
  obtain ⟨ak, ck, ag, cg, ai, ci, rfl, _, _, hzi, _, _⟩ := hv
  obtain ⟨nk, hnk⟩ : ∃ n, n = y.kinds.length := ⟨_, rfl⟩
  obtain ⟨ng, hng⟩ : ∃ n, n = y.gens.length := ⟨_, rfl⟩
  obtain ⟨ni, hni⟩ : ∃ n, n = y.items.length := ⟨_, rfl⟩
  rw [← hnk, ← hng, ← hni]
  have hb := ((Below.refl W.heap.size W).alloc (Nat.le_refl _) (.cells #[.slice ak nk ck, .slice ag ng cg, .slice ai ni ci] 27)).alloc (by simp) (.cells #[.int .i64 p, .int .i64 q] 30)
  have hr2 := heap_keep (heap_alloc_new W (.cells #[.slice ak nk ck, .slice ag ng cg, .slice ai ni ci] 27)) (.cells #[.int .i64 p, .int .i64 q] 30)
  have hr3 := heap_alloc_new (W.alloc (.cells #[.slice ak nk ck, .slice ag ng cg, .slice ai ni ci] 27)) (.cells #[.int .i64 p, .int .i64 q] 30)
  rw [World.size_alloc] at hr3
  obtain ⟨w2, hw2⟩ : ∃ w, w = (W.alloc (.cells #[.slice ak nk ck, .slice ag ng cg, .slice ai ni ci] 27)).alloc (.cells #[.int .i64 p, .int .i64 q] 30) := ⟨_, rfl⟩
  obtain ⟨b3, hb3⟩ : ∃ b, b = W.heap.size + 1 := ⟨_, rfl⟩
  rw [← hw2] at hb hr2 hr3
  rw [← hb3] at hr3
  have c2 := cell_of_row _ _ 2 _ _ _ hr2
  have HC := Lib.hid (idx_find y.items ai ni ci p q b3 hni.symm (by have := hsm.2.2.1; omega) w2 (hzi.below ItemAt.abides hb) hr3)
  have HW2 := Lib.hid (And.intro hw2 hb3)
  have HB := Lib.hid hb
  clear hzi hsm hnk hng hni hb hr2 hr3 hw2 hb3
  go_enter Try.func13, Try.ntmps13
  go_wp2_with (rw [← HW2.out.1, ← HW2.out.2])
  try rw [← HW2.out.1, ← HW2.out.2]
  refine HC.out.mono ?_
  rintro e w3 ⟨⟨K, rfl, hK⟩, hb3⟩
  have HK := Lib.hid hK
  have HB3 := Lib.hid (bt HB.out hb3)
  clear hK hb3
  go_wp2_with fail
  go_ret
  exact ⟨⟨K, rfl, HK.out⟩, HB3.out⟩
end Go.Proofs.Ytpilpkbblkhnaaa
end
/- A list of kinds of the call's own: the row, and each kind's fields in a block of its own. -/
section
namespace Go.Proofs.Ytpilpkbblkhnaaa
open Go.ChangeShapes Go.WideShapes Go.ChangeAt Go.RowKit Go.Nm Go.Mem
set_option linter.unusedVariables false
def FOwn (w : World) (lo : Nat) (v : Value) (l : List FieldV) : Prop := w.ownsRow lo 55 3 v l.length (fvals l) ∧ ∀ y ∈ l, y.name.size ≤ 9223372036854775807
theorem FOwn.below {w w' : World} {lo : Nat} {v : Value} {l : List FieldV} (h : FOwn w lo v l) (hb : Below w.heap.size w w') : FOwn w' lo v l := ⟨own_below h.1 hb, h.2⟩
theorem FOwn.lower {w : World} {lo lo2 : Nat} {v : Value} {l : List FieldV} (h : FOwn w lo v l) (hb : lo2 ≤ lo) : FOwn w lo2 v l := ⟨own_lower h.1 hb, h.2⟩
theorem FOwn.grown {w w' : World} {lo : Nat} {v : Value} {l : List FieldV} {row : Option Nat} (h : FOwn w lo v l) (hg : w.grownBy w' row) (hne : ∀ g, v.ownBlock = some g → some g ≠ row) : FOwn w' lo v l := ⟨own_grown h.1 hg hne, h.2⟩
theorem FOwn.sl {w : World} {lo : Nat} {v : Value} {l : List FieldV} (h : FOwn w lo v l) : ∃ a c, v = .slice a l.length c ∧ l.length ≤ c ∧ c ≤ 9223372036854775807 ∧ SlAt 3 FieldAt w a l ∧ (∀ x, a = some x → lo ≤ x.block) := flds_own rfl h.1 h.2
theorem FOwn.one {w : World} {lo : Nat} {v : Value} {l : List FieldV} (h : FOwn w lo v l) : v.oneCell' = true := by
  obtain ⟨a, c, rfl, _⟩ := h.sl
  rfl
theorem FOwn.lt {w : World} {lo : Nat} {v : Value} {l : List FieldV} (h : FOwn w lo v l) (g : Nat) (hg : v.ownBlock = some g) : lo ≤ g ∧ g < w.heap.size := own_lt h.1 g hg
/-- the cells of a row of kinds -/
def kcells : List KindV → List Value → List Value
  | k :: r, v :: s => .string k.name :: v :: kcells r s
  | _, _ => []
theorem kcells_len : ∀ {ks : List KindV} {V : List Value}, V.length = ks.length → (kcells ks V).length = ks.length * 2
  | [], [], _ => rfl
  | k :: r, v :: s, h => by
    have := kcells_len (ks := r) (V := s) (by simpa using h)
    simp only [kcells, List.length_cons, this]; omega
  | [], v :: s, h => by simp at h
  | k :: r, [], h => by simp at h
theorem kcells_get : ∀ {ks : List KindV} {V : List Value} (hl : V.length = ks.length) (i : Nat) (h : i < ks.length), (kcells ks V)[i * 2]? = some (.string ks[i].name) ∧ (kcells ks V)[i * 2 + 1]? = some (V[i]'(by omega))
  | [], _, _, i, h => by simp at h
  | k :: r, [], hl, i, h => by simp at hl
  | k :: r, v :: s, hl, 0, h => ⟨rfl, rfl⟩
  | k :: r, v :: s, hl, i + 1, h => by
    have := kcells_get (ks := r) (V := s) (by simpa using hl) i (by simpa using h)
    rw [show (i + 1) * 2 = i * 2 + 1 + 1 by omega]
    exact this
/-- kinds read through a row -/
def RK (w : World) (ks : List KindV) (V : List Value) : Prop := V.length = ks.length ∧ ∀ i (h : i < ks.length) (h' : i < V.length), ∃ lo, FOwn w lo V[i] ks[i].fields ∧ ks[i].name.size ≤ 9223372036854775807
theorem sl_of_row {w : World} {B : Nat} {v : Value} {n : Nat} {ks : List KindV} {V : List Value} (hn : ks.length = n) (h : w.ownsRow B 58 2 v n (kcells ks V)) (hr : RK w ks V) : ∃ a c, v = .slice a n c ∧ n ≤ c ∧ c ≤ 9223372036854775807 ∧ SlAt 2 KindAt w a ks := by
  subst hn
  obtain ⟨_, ⟨hv, h0⟩ | ⟨g, cap, cur, hv, hb, hg, hc1, hc2, hc3, hc4⟩⟩ := h
  · exact ⟨none, 0, by rw [hv, h0], by omega, by omega, fun h => by omega⟩
  · refine ⟨some ⟨g, 0, none⟩, cap, hv, hc1, by unfold maxLen at hc2; omega, fun _ => ⟨_, rfl, lt_of_heap hg, fun i hi => ?_⟩⟩
    have cell : ∀ j u, (kcells ks V)[j]? = some u → w.cell? ⟨g, j, none⟩ = some u := by
      intro j u hu
      rw [cell_of_row _ _ _ _ _ _ hg]
      have hj : j < ks.length * 2 := by have := (List.getElem?_eq_some_iff.1 hu).1; rw [kcells_len hr.1] at this; exact this
      rw [← hc4, List.getElem?_take, if_pos hj] at hu
      simpa using hu
    obtain ⟨p0, p1⟩ := kcells_get hr.1 i hi
    obtain ⟨lo, hf, hs⟩ := hr.2 i hi (by rw [hr.1]; exact hi)
    obtain ⟨a, c, e, q1, q2, q3, _⟩ := hf.sl
    rw [add_zero_block]
    exact ⟨cell _ _ p0, hs, a, c, by show w.cell? ⟨g, i * 2 + 1, none⟩ = _; rw [cell _ _ p1, e], q1, q2, q3⟩
theorem own_gbT {w w' : World} {B e size n G : Nat} {v : Value} {xs : List Value} {cs : Array Value} {t : TypeId} {fr : Nat × Nat} (h : w.ownsRow B e size v n xs) (hG : w.heap[G]? = some (.cells cs t fr)) (hne : e ≠ t) (hg : w.grownBy w' (some G)) : w'.ownsRow B e size v n xs :=
  own_grown h hg (fun g hv e2 => by
    injection e2 with e2
    subst e2
    rcases h.2 with ⟨rfl, _⟩ | ⟨g', cap, cur, rfl, _, hh, _⟩
    · cases hv
    · have e3 : g' = g := by injection hv
      subst e3
      rw [hh] at hG
      injection hG with hG
      injection hG with _ hG _
      exact hne hG)
/-- kinds that no write into a row of another type turns -/
def TKat (w : World) (a : Option Addr) (ks : List KindV) : Prop := SlAt 2 KindAt w a ks ∧ ∀ w1, Below w.heap.size w w1 → ∀ g cs t fr w2, w1.heap[g]? = some (.cells cs t fr) → 58 ≠ t → 55 ≠ t → w1.grownBy w2 (some g) → SlAt 2 KindAt w2 a ks
theorem TKat.below {w w' : World} {a : Option Addr} {ks : List KindV} (h : TKat w a ks) (hb : Below w.heap.size w w') : TKat w' a ks := ⟨h.1.below KindAt.abides hb, fun w1 hb1 => h.2 w1 (hb.trans (hb1.mono hb.size))⟩
/-- kinds of the call's own -/
structure OwnK (w : World) (G : Nat) (v : Value) (ks : List KindV) (V : List Value) : Prop where
  len : V.length = ks.length
  row : w.ownsRow G 58 2 v ks.length (kcells ks V)
  blk : v.ownBlock = some G
  fs : ∀ i (h : i < ks.length) (h' : i < V.length), FOwn w (G + 1) V[i] ks[i].fields ∧ ks[i].name.size ≤ 9223372036854775807
  far : ∀ i j (h : i < V.length) (h' : j < V.length), i ≠ j → ∀ g, V[i].ownBlock = some g → V[j].ownBlock ≠ some g
theorem OwnK.below {w w' : World} {G : Nat} {v : Value} {ks : List KindV} {V : List Value} (h : OwnK w G v ks V) (hb : Below w.heap.size w w') : OwnK w' G v ks V :=
  ⟨h.len, own_below h.row hb, h.blk, fun i hi hi' => ⟨(h.fs i hi hi').1.below hb, (h.fs i hi hi').2⟩, h.far⟩
theorem OwnK.one {w : World} {G : Nat} {v : Value} {ks : List KindV} {V : List Value} (h : OwnK w G v ks V) : ∀ u ∈ V, u.oneCell' = true := by
  intro u hu
  obtain ⟨i, hi, rfl⟩ := List.mem_iff_getElem.1 hu
  exact (h.fs i (by rw [← h.len]; exact hi) hi).1.one
theorem own_of_blk {w : World} {G n : Nat} {ks : List KindV} {V : List Value} (h : Blk w G 58 (n * 2)) (hn : ks.length = n) (hl : V.length = ks.length) (hm : n ≤ maxLen) (hc : ∀ i (h : i < ks.length) (h' : i < V.length), w.cell? ⟨G, i * 2, none⟩ = some (.string ks[i].name) ∧ w.cell? ⟨G, i * 2 + 1, none⟩ = some V[i]) :
    w.ownsRow G 58 2 (.slice (some ⟨G, 0, none⟩) n n) ks.length (kcells ks V) := by
  obtain ⟨cs, h1, h2⟩ := h
  subst hn
  refine ⟨kcells_len hl, .inr ⟨G, ks.length, cs, rfl, Nat.le_refl _, h1, Nat.le_refl _, hm, h2, ?_⟩⟩
  apply List.ext_getElem?
  intro j
  by_cases hj : j < ks.length * 2
  · rw [List.getElem?_take_of_lt hj]
    have hi : j / 2 < ks.length := by omega
    obtain ⟨c0, c1⟩ := hc (j / 2) hi (by omega)
    obtain ⟨p0, p1⟩ := kcells_get hl (j / 2) hi
    rw [cell_of_row _ _ _ _ _ _ h1] at c0 c1
    rcases (show j = j / 2 * 2 ∨ j = j / 2 * 2 + 1 by omega) with e | e
    · rw [e, p0]; simpa using c0
    · rw [e, p1]; simpa using c1
  · rw [List.getElem?_eq_none (by rw [List.length_take]; omega), List.getElem?_eq_none (by rw [kcells_len hl]; omega)]
end Go.Proofs.Ytpilpkbblkhnaaa
end
/- What is deleted from a row of the call's own: its cells. No program is named here. -/
section
namespace Go.Dl
open Go.RowKit Go.Mem
theorem gb_refl (w : World) (row : Option Nat) : w.grownBy w row := ⟨rfl, rfl, rfl, Nat.le_refl _, fun _ _ _ => rfl⟩
theorem gb_trans {a w w' : World} {row : Option Nat} (h : a.grownBy w row) (k : w.grownBy w' row) : a.grownBy w' row :=
  ⟨k.os.trans h.os, k.tape.trans h.tape, k.output.trans h.output, Nat.le_trans h.size k.size, fun j hj hr => (k.block j (Nat.lt_of_lt_of_le hj h.size) hr).trans (h.block j hj hr)⟩
theorem gb_drew {a w : World} {row : Option Nat} (h : a.grownBy w row) : a.grownBy w.drew row := ⟨h.os, h.tape, h.output, h.size, h.block⟩
theorem gb_set {a w : World} {g : Nat} (h : a.grownBy w (some g)) (i : Nat) (v : Value) : a.grownBy (w.setCell ⟨g, i, none⟩ v) (some g) :=
  gb_trans h ⟨rfl, rfl, rfl, by simp, fun k _ hk => heap_setCell_other w ⟨g, i, none⟩ k v (fun e => hk (by rw [e]))⟩
theorem own_take {w : World} {base e size n m cap : Nat} {a : Option Addr} {xs : List Value} (h : w.ownsRow base e size (.slice a n cap) n xs) (hm : m ≤ n) (h0 : 0 < n) : w.ownsRow base e size (.slice a m cap) m (xs.take (m * size)) := by
  rcases h.2 with ⟨_, h2⟩ | ⟨g, cap', cur, h1, h2, h3, h4, h5, h6, h7⟩
  · omega
  · injection h1 with e1 _ e3
    subst e1; subst e3
    refine ⟨?_, .inr ⟨g, cap, cur, rfl, h2, h3, by omega, h5, h6, ?_⟩⟩
    · rw [List.length_take, h.1, Nat.min_eq_left (Nat.mul_le_mul_right _ hm)]
    · rw [← h7, List.take_take, Nat.min_eq_left (Nat.mul_le_mul_right _ hm)]
/-- Values laid over a list. -/
def setL (xs : List Value) : Nat → List Value → List Value
  | _, [] => xs
  | o, v :: vs => setL (xs.set o v) (o + 1) vs
theorem setL_length : ∀ (vs xs : List Value) (o : Nat), (setL xs o vs).length = xs.length
  | [], _, _ => rfl
  | v :: vs, xs, o => by rw [setL, setL_length vs]; simp
theorem setL_get : ∀ (vs xs : List Value) (o j : Nat), o + vs.length ≤ xs.length → (setL xs o vs)[j]? = if o ≤ j ∧ j < o + vs.length then vs[j - o]? else xs[j]?
  | [], xs, o, j, _ => by rw [setL, if_neg (by simp)]
  | v :: vs, xs, o, j, h => by
    simp only [List.length_cons] at h ⊢
    rw [setL, setL_get vs _ (o + 1) j (by simp; omega)]
    by_cases h1 : o = j
    · subst h1
      rw [if_neg (by omega), if_pos (by omega), List.getElem?_set_self (by omega), Nat.sub_self]; rfl
    · by_cases h2 : o + 1 ≤ j ∧ j < o + 1 + vs.length
      · rw [if_pos h2, if_pos (by omega), show j - o = (j - (o + 1)) + 1 by omega, List.getElem?_cons_succ]
      · rw [if_neg h2, if_neg (by omega), List.getElem?_set_ne h1]
theorem del_cells (xs : List Value) (m k sz : Nat) (hx : xs.length = m * sz) (hk : k < m) (z : List Value) (hz : z.length = sz) :
    (setL (setL xs (k * sz) (xs.drop ((k + 1) * sz))) ((m - 1) * sz) z).take ((m - 1) * sz) = xs.take (k * sz) ++ xs.drop ((k + 1) * sz) := by
  have l1 : (xs.drop ((k + 1) * sz)).length = (m - (k + 1)) * sz := by rw [List.length_drop, hx, Nat.sub_mul]
  have e1 : (m - 1) * sz = k * sz + (m - (k + 1)) * sz := by rw [← Nat.add_mul]; congr 1; omega
  have e2 : m * sz = (m - 1) * sz + sz := by conv => lhs; rw [show m = m - 1 + 1 by omega, Nat.succ_mul]
  have e3 : (k + 1) * sz = k * sz + sz := Nat.succ_mul _ _
  generalize hA : (m - (k + 1)) * sz = A at l1 e1
  generalize hB : (m - 1) * sz = B at e1 e2 ⊢
  generalize hC : k * sz = C at e1 e3 ⊢
  apply List.ext_getElem?
  intro j
  by_cases hj : j < B
  · rw [List.getElem?_take_of_lt hj, setL_get _ _ _ _ (by rw [setL_length, hx, hz]; omega), if_neg (by omega), setL_get _ _ _ _ (by rw [hx, l1]; omega)]
    have l2 : (xs.take C).length = C := by rw [List.length_take, Nat.min_eq_left (by omega)]
    by_cases h1 : j < C
    · rw [if_neg (by omega), List.getElem?_append_left (by omega), List.getElem?_take_of_lt h1]
    · rw [if_pos (by rw [l1]; omega), List.getElem?_append_right (by omega), l2]
  · rw [List.getElem?_eq_none (by rw [List.length_take]; omega), List.getElem?_eq_none (by rw [List.length_append, List.length_take, l1]; omega)]
/-- Values stored into an owned row, one behind the other. -/
theorem own_setCells {base e size n g cap : Nat} : ∀ (vs xs : List Value) (o : Nat) (w : World), w.ownsRow base e size (.slice (some ⟨g, 0, none⟩) n cap) n xs → (w.setCells g o vs).ownsRow base e size (.slice (some ⟨g, 0, none⟩) n cap) n (setL xs o vs)
  | [], _, _, _, h => h
  | v :: vs, xs, o, w, h => by
    rw [setL]
    exact own_setCells vs _ (o + 1) _ (h.stored o v).1
theorem gb_setCells {g : Nat} : ∀ (vs : List Value) (o : Nat) (a w : World), a.grownBy w (some g) → a.grownBy (w.setCells g o vs) (some g)
  | [], _, _, _, h => h
  | v :: vs, o, a, _, h => gb_setCells vs (o + 1) a _ (gb_set h o v)
/-- 'clear' of one element. -/
theorem run_clear_one {P : Program} (w : World) (t e ty : TypeId) (z : Value) (l : List Value) (ht : P.underlying t = some (.slice e)) (hv : ∀ w, (zeroValue e).run P w = .ok z w) (hz : z.cells = l.toArray) (h1 : ∀ v ∈ l, v.oneCell' = true) (b o c : Nat)
    (hc : ∀ j, j < l.length → (w.cell? ⟨b, o + j, none⟩).isSome = true) (hf : ∀ j, j < l.length → w.frozen? ⟨b, o + j, none⟩ = false) :
    (Builtin.clear_ #[t] ty #[.slice (some ⟨b, o, none⟩) 1 c]).run P w = .ok (.tuple #[]) (w.setCells b o l) := by
  have hzc : (Builtin.zeroCells z.cells 1).toList = l := by
    rw [hz]
    simp [Builtin.zeroCells]
    apply List.ext_getElem
    · simp
    · intro i h1 h2
      simp [Nat.mod_eq_of_lt h2, h2]
  have hst := run_storeCells_cells (P := P) b o l 0 w (by simpa using hc) (by simpa using hf) h1
  simp only [Nat.add_zero] at hst
  simp [Builtin.clear_, run_underlying ht, hv, hzc, hst]
end Go.Dl
end
/- Components and items of the call's own: rows of cells in chunks. -/
section
namespace Go.Proofs.Ytpilpkbblkhnaaa
open Go.ChangeShapes Go.WideShapes Go.ChangeAt Go.RowKit Go.Nm Go.Mem
set_option linter.unusedVariables false
section
variable {α : Type}
theorem fl_len (sz : Nat) : ∀ (R : List (List α)), (∀ r ∈ R, r.length = sz) → R.flatten.length = R.length * sz
  | [], _ => by simp
  | r :: R, h => by
    rw [List.flatten_cons, List.length_append, fl_len sz R (fun x hx => h x (List.mem_cons_of_mem _ hx)), h r (List.mem_cons_self ..), List.length_cons, Nat.succ_mul]; omega
theorem fl_take (sz : Nat) : ∀ (R : List (List α)) (i : Nat), (∀ r ∈ R, r.length = sz) → R.flatten.take (i * sz) = (R.take i).flatten
  | [], i, _ => by simp
  | r :: R, 0, _ => by simp
  | r :: R, i + 1, h => by
    have hr := h r (List.mem_cons_self ..)
    rw [List.flatten_cons, List.take_succ_cons, List.flatten_cons, Nat.succ_mul, List.take_append, hr, List.take_of_length_le (by omega), show i * sz + sz - sz = i * sz by omega, fl_take sz R i (fun x hx => h x (List.mem_cons_of_mem _ hx))]
theorem fl_drop (sz : Nat) : ∀ (R : List (List α)) (i : Nat), (∀ r ∈ R, r.length = sz) → R.flatten.drop (i * sz) = (R.drop i).flatten
  | [], i, _ => by simp
  | r :: R, 0, _ => by simp
  | r :: R, i + 1, h => by
    have hr := h r (List.mem_cons_self ..)
    rw [List.flatten_cons, List.drop_succ_cons, Nat.succ_mul, List.drop_append, hr, List.drop_of_length_le (by omega), show i * sz + sz - sz = i * sz by omega, fl_drop sz R i (fun x hx => h x (List.mem_cons_of_mem _ hx)), List.nil_append]
theorem fl_get (sz : Nat) : ∀ (R : List (List α)) (i j : Nat) (h : ∀ r ∈ R, r.length = sz) (hi : i < R.length), j < sz → R.flatten[i * sz + j]? = R[i][j]?
  | [], i, j, _, hi, _ => by cases hi
  | r :: R, 0, j, h, _, hj => by
    rw [List.flatten_cons, List.getElem?_append_left (by rw [h r (List.mem_cons_self ..)]; omega)]; simp
  | r :: R, i + 1, j, h, hi, hj => by
    have hr := h r (List.mem_cons_self ..)
    rw [List.flatten_cons, List.getElem?_append_right (by rw [hr, Nat.succ_mul]; omega), hr, show (i + 1) * sz + j - sz = i * sz + j by rw [Nat.succ_mul]; omega, fl_get sz R i j (fun x hx => h x (List.mem_cons_of_mem _ hx)) (by simpa using hi) hj, List.getElem_cons_succ]
end
/-- the cells of components whose numbers are the slices U -/
def cchunk (y : CompV) (u : Value) : List Value := [.int .i64 y.kind, u]
def crows (l : List CompV) (U : List Value) : List (List Value) := List.zipWith cchunk l U
def ccells (l : List CompV) (U : List Value) : List Value := (crows l U).flatten
/-- the cells of items whose components are the slices V -/
def ichunk (y : ItemV) (v : Value) : List Value := [.int .i64 y.n, .int .i64 y.gen, v]
def irows (l : List ItemV) (V : List Value) : List (List Value) := List.zipWith ichunk l V
def icells (l : List ItemV) (V : List Value) : List Value := (irows l V).flatten
theorem mem_zipWith {α β γ : Type} {f : α → β → γ} : ∀ {l : List α} {U : List β} {r : γ}, r ∈ List.zipWith f l U → ∃ y u, y ∈ l ∧ u ∈ U ∧ r = f y u
  | [], _, r, h => by simp at h
  | _ :: _, [], r, h => by simp at h
  | y :: l, u :: U, r, h => by
    rw [List.zipWith_cons_cons] at h
    rcases List.mem_cons.1 h with h | h
    · exact ⟨y, u, List.mem_cons_self .., List.mem_cons_self .., h⟩
    · obtain ⟨y2, u2, h1, h2, h3⟩ := mem_zipWith h
      exact ⟨y2, u2, List.mem_cons_of_mem _ h1, List.mem_cons_of_mem _ h2, h3⟩
theorem crows_sz {l : List CompV} {U : List Value} : ∀ r ∈ crows l U, r.length = 2 := fun r h => by obtain ⟨y, u, _, _, rfl⟩ := mem_zipWith h; rfl
theorem irows_sz {l : List ItemV} {V : List Value} : ∀ r ∈ irows l V, r.length = 3 := fun r h => by obtain ⟨y, u, _, _, rfl⟩ := mem_zipWith h; rfl
theorem crows_len {l : List CompV} {U : List Value} (h : U.length = l.length) : (crows l U).length = l.length := by unfold crows; rw [List.length_zipWith, h, Nat.min_self]
theorem irows_len {l : List ItemV} {V : List Value} (h : V.length = l.length) : (irows l V).length = l.length := by unfold irows; rw [List.length_zipWith, h, Nat.min_self]
theorem ccells_len {l : List CompV} {U : List Value} (h : U.length = l.length) : (ccells l U).length = l.length * 2 := by unfold ccells; rw [fl_len 2 _ crows_sz, crows_len h]
theorem icells_len {l : List ItemV} {V : List Value} (h : V.length = l.length) : (icells l V).length = l.length * 3 := by unfold icells; rw [fl_len 3 _ irows_sz, irows_len h]
theorem crows_get {l : List CompV} {U : List Value} (h : U.length = l.length) (i : Nat) (hi : i < l.length) (hr : i < (crows l U).length) : (crows l U)[i] = cchunk l[i] (U[i]'(by omega)) := List.getElem_zipWith (f := cchunk) (l := l) (l' := U) (h := hr)
theorem irows_get {l : List ItemV} {V : List Value} (h : V.length = l.length) (i : Nat) (hi : i < l.length) (hr : i < (irows l V).length) : (irows l V)[i] = ichunk l[i] (V[i]'(by omega)) := List.getElem_zipWith (f := ichunk) (l := l) (l' := V) (h := hr)
theorem ccells_get {l : List CompV} {U : List Value} (h : U.length = l.length) (i : Nat) (hi : i < l.length) : (ccells l U)[i * 2]? = some (.int .i64 l[i].kind) ∧ (ccells l U)[i * 2 + 1]? = some (U[i]'(by omega)) := by
  have hr : i < (crows l U).length := by rw [crows_len h]; exact hi
  refine ⟨?_, ?_⟩
  · have := fl_get 2 (crows l U) i 0 crows_sz hr (by omega)
    rw [Nat.add_zero] at this
    unfold ccells; rw [this, crows_get h i hi]; rfl
  · unfold ccells; rw [fl_get 2 (crows l U) i 1 crows_sz hr (by omega), crows_get h i hi]; rfl
theorem icells_get {l : List ItemV} {V : List Value} (h : V.length = l.length) (i : Nat) (hi : i < l.length) : (icells l V)[i * 3]? = some (.int .i64 l[i].n) ∧ (icells l V)[i * 3 + 1]? = some (.int .i64 l[i].gen) ∧ (icells l V)[i * 3 + 2]? = some (V[i]'(by omega)) := by
  have hr : i < (irows l V).length := by rw [irows_len h]; exact hi
  refine ⟨?_, ?_, ?_⟩
  · have := fl_get 3 (irows l V) i 0 irows_sz hr (by omega)
    rw [Nat.add_zero] at this
    unfold icells; rw [this, irows_get h i hi]; rfl
  · unfold icells; rw [fl_get 3 (irows l V) i 1 irows_sz hr (by omega), irows_get h i hi]; rfl
  · unfold icells; rw [fl_get 3 (irows l V) i 2 irows_sz hr (by omega), irows_get h i hi]; rfl
theorem icells_take {l : List ItemV} {V : List Value} (i : Nat) : (icells l V).take (i * 3) = icells (l.take i) (V.take i) := by unfold icells; rw [fl_take 3 _ _ irows_sz]; unfold irows; rw [List.take_zipWith]
theorem icells_drop {l : List ItemV} {V : List Value} (i : Nat) : (icells l V).drop (i * 3) = icells (l.drop i) (V.drop i) := by unfold icells; rw [fl_drop 3 _ _ irows_sz]; unfold irows; rw [List.drop_zipWith]
theorem icells_app {l l2 : List ItemV} {V V2 : List Value} (h : l.length = V.length) : icells (l ++ l2) (V ++ V2) = icells l V ++ icells l2 V2 := by unfold icells irows; rw [List.zipWith_append h, List.flatten_append]
theorem icells_one {l : List ItemV} {V : List Value} (h : ∀ u ∈ V, u.oneCell' = true) : ∀ x ∈ icells l V, x.oneCell' = true := fun x hx => by
  obtain ⟨r, hr, hx⟩ := List.mem_flatten.1 hx
  obtain ⟨y, u, _, hu, rfl⟩ := mem_zipWith hr
  unfold ichunk at hx
  rcases List.mem_cons.1 hx with rfl | hx
  · rfl
  · rcases List.mem_cons.1 hx with rfl | hx
    · rfl
    · rw [List.mem_singleton.1 hx]; exact h u hu
/-- a made row whose cells have been written, as a row of the call's own -/
theorem own_of_blkC {w : World} {G n : Nat} {l : List CompV} {U : List Value} (h : Blk w G 60 (n * 2)) (hn : l.length = n) (hl : U.length = l.length) (hm : n ≤ maxLen) (hc : ∀ i (h : i < l.length) (h' : i < U.length), w.cell? ⟨G, i * 2, none⟩ = some (.int .i64 l[i].kind) ∧ w.cell? ⟨G, i * 2 + 1, none⟩ = some U[i]) :
    w.ownsRow G 60 2 (.slice (some ⟨G, 0, none⟩) n n) l.length (ccells l U) := by
  obtain ⟨cs, h1, h2⟩ := h
  subst hn
  refine ⟨ccells_len hl, .inr ⟨G, l.length, cs, rfl, Nat.le_refl _, h1, Nat.le_refl _, hm, h2, ?_⟩⟩
  apply List.ext_getElem?
  intro j
  by_cases hj : j < l.length * 2
  · rw [List.getElem?_take_of_lt hj]
    obtain ⟨c0, c1⟩ := hc (j / 2) (by omega) (by omega)
    obtain ⟨p0, p1⟩ := ccells_get hl (j / 2) (by omega)
    rw [cell_of_row _ _ _ _ _ _ h1] at c0 c1
    rcases (show j = j / 2 * 2 ∨ j = j / 2 * 2 + 1 by omega) with e | e
    · rw [e, p0]; simpa using c0
    · rw [e, p1]; simpa using c1
  · rw [List.getElem?_eq_none (by rw [List.length_take]; omega), List.getElem?_eq_none (by rw [ccells_len hl]; omega)]
theorem own_of_blkI {w : World} {G n : Nat} {l : List ItemV} {V : List Value} (h : Blk w G 33 (n * 3)) (hn : l.length = n) (hl : V.length = l.length) (hm : n ≤ maxLen) (hc : ∀ i (h : i < l.length) (h' : i < V.length), w.cell? ⟨G, i * 3, none⟩ = some (.int .i64 l[i].n) ∧ w.cell? ⟨G, i * 3 + 1, none⟩ = some (.int .i64 l[i].gen) ∧ w.cell? ⟨G, i * 3 + 2, none⟩ = some V[i]) :
    w.ownsRow G 33 3 (.slice (some ⟨G, 0, none⟩) n n) l.length (icells l V) := by
  obtain ⟨cs, h1, h2⟩ := h
  subst hn
  refine ⟨icells_len hl, .inr ⟨G, l.length, cs, rfl, Nat.le_refl _, h1, Nat.le_refl _, hm, h2, ?_⟩⟩
  apply List.ext_getElem?
  intro j
  by_cases hj : j < l.length * 3
  · rw [List.getElem?_take_of_lt hj]
    obtain ⟨c0, c1, c2⟩ := hc (j / 3) (by omega) (by omega)
    obtain ⟨p0, p1, p2⟩ := icells_get hl (j / 3) (by omega)
    rw [cell_of_row _ _ _ _ _ _ h1] at c0 c1 c2
    rcases (show j = j / 3 * 3 ∨ j = j / 3 * 3 + 1 ∨ j = j / 3 * 3 + 2 by omega) with e | e | e
    · rw [e, p0]; simpa using c0
    · rw [e, p1]; simpa using c1
    · rw [e, p2]; simpa using c2
  · rw [List.getElem?_eq_none (by rw [List.length_take]; omega), List.getElem?_eq_none (by rw [icells_len hl]; omega)]
/-- components of the call's own: their row, and each one's numbers, lie at or beyond lo -/
def COwnS (lo : Nat) (w : World) (v : Value) (l : List CompV) : Prop := ∃ U : List Value, U.length = l.length ∧ w.ownsRow lo 60 2 v l.length (ccells l U) ∧ ∀ j (h : j < l.length) (h' : j < U.length), w.ownsRow lo 3 1 U[j] l[j].vals.length (vints .i64 l[j].vals)
theorem COwnS.below {lo : Nat} {w w' : World} {v : Value} {l : List CompV} (h : COwnS lo w v l) (hb : Below w.heap.size w w') : COwnS lo w' v l := by
  obtain ⟨U, h1, h2, h3⟩ := h
  exact ⟨U, h1, own_below h2 hb, fun j hj hj' => own_below (h3 j hj hj') hb⟩
theorem COwnS.grown {lo : Nat} {w w' : World} {v : Value} {l : List CompV} {row : Option Nat} (h : COwnS lo w v l) (hg : w.grownBy w' row) (hr : ∀ r, row = some r → r < lo) : COwnS lo w' v l := by
  obtain ⟨U, h1, h2, h3⟩ := h
  exact ⟨U, h1, own_grown h2 hg (fun g hv e => by have := hr g e.symm; have := (own_lt h2 g hv).1; omega), fun j hj hj' => own_grown (h3 j hj hj') hg (fun g hv e => by have := hr g e.symm; have := (own_lt (h3 j hj hj') g hv).1; omega)⟩
theorem COwnS.lower {lo lo2 : Nat} {w : World} {v : Value} {l : List CompV} (h : COwnS lo w v l) (hl : lo2 ≤ lo) : COwnS lo2 w v l := by
  obtain ⟨U, h1, h2, h3⟩ := h
  exact ⟨U, h1, own_lower h2 hl, fun j hj hj' => own_lower (h3 j hj hj') hl⟩
theorem own_slC {w : World} {B e size n : Nat} {v : Value} {xs : List Value} (h : w.ownsRow B e size v n xs) : ∃ a c, v = .slice a n c := by
  rcases h.2 with ⟨rfl, h0⟩ | ⟨g, cap, cur, rfl, _⟩
  · exact ⟨none, 0, by rw [h0]⟩
  · exact ⟨_, _, rfl⟩
theorem COwnS.one {lo : Nat} {w : World} {v : Value} {l : List CompV} (h : COwnS lo w v l) : ∃ a c, v = .slice a l.length c := by
  obtain ⟨U, h1, h2, h3⟩ := h
  exact own_slC h2
end Go.Proofs.Ytpilpkbblkhnaaa
end
/- A world of the call's own: its generations, its row of items and each item's row of components may be written; the rest stays. -/
section
namespace Go.Proofs.Ytpilpkbblkhnaaa
open Go.ChangeShapes Go.WideShapes Go.ChangeAt Go.RowKit Go.Nm Go.Mem
set_option linter.unusedVariables false
/-- P holds, whatever lies below B or in the rows R -/
def Stays (B : Nat) (R : List Nat) (P : World → Prop) (w : World) : Prop := ∀ w2, w.heap.size ≤ w2.heap.size → (∀ g, B ≤ g → g < w.heap.size → g ∉ R → w2.heap[g]? = w.heap[g]?) → P w2
section
variable {B : Nat} {R : List Nat} {P : World → Prop} {w w2 : World}
theorem Stays.now (h : Stays B R P w) : P w := h w (Nat.le_refl _) (fun _ _ _ _ => rfl)
theorem Stays.to (h : Stays B R P w) (hs : w.heap.size ≤ w2.heap.size) (hk : ∀ g, B ≤ g → g < w.heap.size → g ∉ R → w2.heap[g]? = w.heap[g]?) : Stays B R P w2 := fun w3 h1 h2 => h w3 (Nat.le_trans hs h1) (fun g a b c => (h2 g a (Nat.lt_of_lt_of_le b hs) c).trans (hk g a b c))
theorem Stays.rows {R' : List Nat} (h : Stays B R P w) (hr : ∀ g ∈ R', g ∈ R ∨ w.heap.size ≤ g) : Stays B R' P w := fun w3 h1 h2 => h w3 h1 (fun g a b c => h2 g a b (fun h3 => by
  rcases hr g h3 with h4 | h4
  · exact c h4
  · omega))
theorem Stays.step {R' : List Nat} (h : Stays B R P w) (hs : w.heap.size ≤ w2.heap.size) (hk : ∀ g, B ≤ g → g < w.heap.size → g ∉ R → w2.heap[g]? = w.heap[g]?) (hr : ∀ g ∈ R', g ∈ R ∨ w.heap.size ≤ g) : Stays B R' P w2 := fun w3 h1 h2 => h w3 (Nat.le_trans hs h1) (fun g a b c => (h2 g a (Nat.lt_of_lt_of_le b hs) (fun h3 => by
  rcases hr g h3 with h4 | h4
  · exact c h4
  · omega)).trans (hk g a b c))
theorem Stays.lower {B' : Nat} (h : Stays B R P w) (hb : B' ≤ B) : Stays B' R P w := fun w3 h1 h2 => h w3 h1 (fun g a b c => h2 g (Nat.le_trans hb a) b c)
theorem Stays.below (h : Stays B R P w) (hb : Below w.heap.size w w2) : Stays B R P w2 := h.to hb.size (fun g _ hg _ => hb.block g hg)
theorem Stays.grown {row : Option Nat} (h : Stays B R P w) (hg : w.grownBy w2 row) (hr : ∀ r, row = some r → r < B ∨ r ∈ R) : Stays B R P w2 := h.to hg.size (fun g h1 h2 h3 => hg.block g h2 (fun e => by
  rcases hr g e.symm with h4 | h4
  · omega
  · exact h3 h4))
end
theorem Stays.up {B : Nat} {R : List Nat} {P : World → Prop} {w : World} (h : Stays B R P w) : Up B P w := fun w2 hs => h w2 hs.1 (fun g a b _ => hs.2 g a b)
/-- the blocks of some rows -/
def rowsOf (L : List Value) : List Nat := L.filterMap Value.ownBlock
theorem mem_rowsOf {L : List Value} {g : Nat} : g ∈ rowsOf L ↔ ∃ v ∈ L, v.ownBlock = some g := by unfold rowsOf; rw [List.mem_filterMap]
/-- components: their row of the call's own; their numbers stay -/
def COwn (B : Nat) (R : List Nat) (w : World) (v : Value) (l : List CompV) : Prop := ∃ U : List Value, U.length = l.length ∧ w.ownsRow B 60 2 v l.length (ccells l U) ∧ ∀ j (h : j < l.length) (h' : j < U.length), ∃ a c, U[j] = .slice a l[j].vals.length c ∧ Stays B R (fun w => IntsAt .i64 w a l[j].vals) w
section
variable {B : Nat} {R : List Nat} {w w2 : World} {v : Value} {l : List CompV}
theorem COwn.to (h : COwn B R w v l) (hs : w.heap.size ≤ w2.heap.size) (hk : ∀ g, B ≤ g → g < w.heap.size → g ∉ R → w2.heap[g]? = w.heap[g]?) (hv : ∀ g, v.ownBlock = some g → w2.heap[g]? = w.heap[g]?) : COwn B R w2 v l := by
  obtain ⟨U, h1, h2, h3⟩ := h
  refine ⟨U, h1, own_keep h2 hv, fun j hj hj' => ?_⟩
  obtain ⟨a, c, h4, h5⟩ := h3 j hj hj'
  exact ⟨a, c, h4, h5.to hs hk⟩
theorem COwn.rows {R' : List Nat} (h : COwn B R w v l) (hr : ∀ g ∈ R', g ∈ R ∨ w.heap.size ≤ g) : COwn B R' w v l := by
  obtain ⟨U, h1, h2, h3⟩ := h
  refine ⟨U, h1, h2, fun j hj hj' => ?_⟩
  obtain ⟨a, c, h4, h5⟩ := h3 j hj hj'
  exact ⟨a, c, h4, h5.rows hr⟩
theorem COwn.step {R' : List Nat} (h : COwn B R w v l) (hs : w.heap.size ≤ w2.heap.size) (hk : ∀ g, B ≤ g → g < w.heap.size → g ∉ R → w2.heap[g]? = w.heap[g]?) (hr : ∀ g ∈ R', g ∈ R ∨ w.heap.size ≤ g) (hv : ∀ g, v.ownBlock = some g → w2.heap[g]? = w.heap[g]?) : COwn B R' w2 v l := by
  obtain ⟨U, h1, h2, h3⟩ := h
  refine ⟨U, h1, own_keep h2 hv, fun j hj hj' => ?_⟩
  obtain ⟨a, c, h4, h5⟩ := h3 j hj hj'
  exact ⟨a, c, h4, h5.step hs hk hr⟩
theorem COwn.lower {B' : Nat} (h : COwn B R w v l) (hb : B' ≤ B) : COwn B' R w v l := by
  obtain ⟨U, h1, h2, h3⟩ := h
  refine ⟨U, h1, own_lower h2 hb, fun j hj hj' => ?_⟩
  obtain ⟨a, c, h4, h5⟩ := h3 j hj hj'
  exact ⟨a, c, h4, h5.lower hb⟩
theorem COwn.row (h : COwn B R w v l) : ∃ U : List Value, U.length = l.length ∧ w.ownsRow B 60 2 v l.length (ccells l U) := by
  obtain ⟨U, h1, h2, _⟩ := h
  exact ⟨U, h1, h2⟩
theorem COwn.sl (h : COwn B R w v l) : ∃ a c, v = .slice a l.length c ∧ SlAt 2 CompAt w a l := by
  obtain ⟨U, h1, h2, h3⟩ := h
  rcases h2.2 with ⟨rfl, h0⟩ | ⟨g, cap, cur, rfl, hb, hg, hc1, hc2, hc3, hc4⟩
  · exact ⟨none, 0, by rw [h0], fun hh => by omega⟩
  · refine ⟨some ⟨g, 0, none⟩, cap, rfl, fun _ => ⟨_, rfl, lt_of_heap hg, fun i hi => ?_⟩⟩
    have cell : ∀ j u, (ccells l U)[j]? = some u → w.cell? ⟨g, j, none⟩ = some u := by
      intro j u hu
      rw [cell_of_row _ _ _ _ _ _ hg]
      have hj : j < l.length * 2 := by have := (List.getElem?_eq_some_iff.1 hu).1; rw [ccells_len h1] at this; exact this
      rw [← hc4, List.getElem?_take, if_pos hj] at hu
      simpa using hu
    obtain ⟨p0, p1⟩ := ccells_get h1 i hi
    obtain ⟨a, c, e, q⟩ := h3 i hi (by omega)
    rw [add_zero_block]
    exact ⟨cell _ _ p0, a, c, by show w.cell? ⟨g, i * 2 + 1, none⟩ = _; rw [cell _ _ p1, e], q.now⟩
theorem COwn.up (h : COwn B R w v l) : ∃ a c, v = .slice a l.length c ∧ Up B (fun w => SlAt 2 CompAt w a l) w := by
  obtain ⟨a, c, rfl, _⟩ := h.sl
  refine ⟨a, c, rfl, fun w2 hs => ?_⟩
  obtain ⟨a2, c2, e, hz⟩ := (h.to hs.1 (fun g a b _ => hs.2 g a b) (fun g hg => by
    obtain ⟨U, _, h2, _⟩ := h
    have := own_lt h2 g hg
    exact hs.2 g this.1 this.2)).sl
  injection e with e
  rw [e]; exact hz
theorem COwn.one (h : COwn B R w v l) : v.oneCell' = true := by
  obtain ⟨a, c, rfl, _⟩ := h.sl; rfl
theorem COwn.lt (h : COwn B R w v l) (g : Nat) (hg : v.ownBlock = some g) : B ≤ g ∧ g < w.heap.size := by
  obtain ⟨U, _, h2, _⟩ := h
  exact own_lt h2 g hg
end
/-- a world of the call's own -/
structure OW (w : World) (B : Nat) (y : WorldV) (ak : Option Addr) (vg vi : Value) (V : List Value) : Prop where
  len : V.length = y.items.length
  kinds : Stays B (rowsOf (vg :: vi :: V)) (fun w => SlAt 2 KindAt w ak y.kinds) w
  gens : w.ownsRow B 3 1 vg y.gens.length (vints .i64 y.gens)
  items : w.ownsRow B 33 3 vi y.items.length (icells y.items V)
  comps : ∀ i (h : i < y.items.length) (h' : i < V.length), COwn B (rowsOf (vg :: vi :: V)) w V[i] y.items[i].comps
  far : ∀ i j (h : i < V.length) (h' : j < V.length), i ≠ j → ∀ g, V[i].ownBlock = some g → V[j].ownBlock ≠ some g
section
variable {w w2 : World} {B : Nat} {y : WorldV} {ak : Option Addr} {vg vi : Value} {V : List Value}
theorem OW.lower {B' : Nat} (h : OW w B y ak vg vi V) (hb : B' ≤ B) : OW w B' y ak vg vi V := ⟨h.len, h.kinds.lower hb, own_lower h.gens hb, own_lower h.items hb, fun i hi hi' => (h.comps i hi hi').lower hb, h.far⟩
/-- what lies below B may turn -/
theorem OW.frame (h : OW w B y ak vg vi V) (hs : w.heap.size ≤ w2.heap.size) (hk : ∀ g, B ≤ g → g < w.heap.size → w2.heap[g]? = w.heap[g]?) : OW w2 B y ak vg vi V :=
  ⟨h.len, h.kinds.to hs (fun g a b _ => hk g a b), own_keep h.gens (fun g hg => by have := own_lt h.gens g hg; exact hk g this.1 this.2), own_keep h.items (fun g hg => by have := own_lt h.items g hg; exact hk g this.1 this.2),
    fun i hi hi' => (h.comps i hi hi').to hs (fun g a b _ => hk g a b) (fun g hg => by have := (h.comps i hi hi').lt g hg; exact hk g this.1 this.2), h.far⟩
theorem OW.below (h : OW w B y ak vg vi V) (hb : Below w.heap.size w w2) : OW w2 B y ak vg vi V := h.frame hb.size (fun g _ hg => hb.block g hg)
theorem OW.box {g : Nat} (h : OW w B y ak vg vi V) (hg : w.grownBy w2 (some g)) (hl : g < B) : OW w2 B y ak vg vi V := h.frame hg.size (fun k hk hk2 => hg.block k hk2 (fun e => by injection e with e; omega))
theorem OW.one (h : OW w B y ak vg vi V) : ∀ u ∈ V, u.oneCell' = true := by
  intro u hu
  obtain ⟨i, hi, rfl⟩ := List.mem_iff_getElem.1 hu
  exact (h.comps i (by rw [← h.len]; exact hi) hi).one
/-- no row lies in another one's block -/
theorem OW.gi (h : OW w B y ak vg vi V) (g : Nat) (hg : vg.ownBlock = some g) : vi.ownBlock ≠ some g := fun e => own_other h.gens h.items (by decide) g hg e.symm
theorem OW.gc (h : OW w B y ak vg vi V) (g : Nat) (hg : vg.ownBlock = some g) (i : Nat) (hi : i < V.length) : V[i].ownBlock ≠ some g := fun e => by
  obtain ⟨U, _, h2⟩ := (h.comps i (by rw [← h.len]; exact hi) hi).row
  exact own_other h.gens h2 (by decide) g hg e.symm
theorem OW.ic (h : OW w B y ak vg vi V) (g : Nat) (hg : vi.ownBlock = some g) (i : Nat) (hi : i < V.length) : V[i].ownBlock ≠ some g := fun e => by
  obtain ⟨U, _, h2⟩ := (h.comps i (by rw [← h.len]; exact hi) hi).row
  exact own_other h.items h2 (by decide) g hg e.symm
theorem OW.itemsAt (h : OW w B y ak vg vi V) : ∃ ai ci, vi = .slice ai y.items.length ci ∧ SlAt 3 ItemAt w ai y.items := by
  rcases h.items.2 with ⟨rfl, h0⟩ | ⟨g, cap, cur, rfl, hb, hg, hc1, hc2, hc3, hc4⟩
  · exact ⟨none, 0, by rw [h0], fun hh => by omega⟩
  · refine ⟨some ⟨g, 0, none⟩, cap, rfl, fun _ => ⟨_, rfl, lt_of_heap hg, fun i hi => ?_⟩⟩
    have cell : ∀ j u, (icells y.items V)[j]? = some u → w.cell? ⟨g, j, none⟩ = some u := by
      intro j u hu
      rw [cell_of_row _ _ _ _ _ _ hg]
      have hj : j < y.items.length * 3 := by have := (List.getElem?_eq_some_iff.1 hu).1; rw [icells_len h.len] at this; exact this
      rw [← hc4, List.getElem?_take, if_pos hj] at hu
      simpa using hu
    obtain ⟨p0, p1, p2⟩ := icells_get h.len i hi
    obtain ⟨a, c, e, q⟩ := (h.comps i hi (by rw [h.len]; exact hi)).sl
    rw [add_zero_block]
    exact ⟨cell _ _ p0, cell _ _ p1, a, c, by show w.cell? ⟨g, i * 3 + 2, none⟩ = _; rw [cell _ _ p2, e], q⟩
theorem OW.itemsA {a : Option Addr} {n c : Nat} (h : OW w B y ak vg (.slice a n c) V) : SlAt 3 ItemAt w a y.items := by
  obtain ⟨a2, c2, e, hz⟩ := h.itemsAt
  injection e with e
  rw [e]; exact hz
theorem OW.world (h : OW w B y ak vg vi V) {ck : Nat} (hk : y.kinds.length ≤ ck) (hc : ck ≤ 9223372036854775807) : WorldIn w (.agg #[.slice ak y.kinds.length ck, vg, vi]) y := by
  obtain ⟨ag, cg, rfl⟩ := own_slC h.gens
  have hz := h.itemsAt
  obtain ⟨ai, ci, rfl, hz⟩ := hz
  exact ⟨ak, ck, ag, cg, ai, ci, rfl, h.kinds.now, IntsAt.of_own h.gens rfl, hz, hk, hc⟩
/-- the world can be read, whatever lies below B -/
theorem OW.up (h : OW w B y ak vg vi V) {ck : Nat} (hk : y.kinds.length ≤ ck) (hc : ck ≤ 9223372036854775807) : Up B (fun w => WorldIn w (.agg #[.slice ak y.kinds.length ck, vg, vi]) y) w := fun w2 hs => (h.frame hs.1 hs.2).world hk hc
/-- the generations are written -/
theorem OW.setGens (h : OW w B y ak vg vi V) {vg2 : Value} {G : List Int} (hg : w.grownBy w2 vg.ownBlock) (ho : w2.ownsRow B 3 1 vg2 G.length (vints .i64 G)) (hb : vg2.ownBlock = vg.ownBlock ∨ ∀ g, vg2.ownBlock = some g → w.heap.size ≤ g) : OW w2 B ⟨y.kinds, G, y.items⟩ ak vg2 vi V := by
  have hr : ∀ g ∈ rowsOf (vg2 :: vi :: V), g ∈ rowsOf (vg :: vi :: V) ∨ w.heap.size ≤ g := fun g hg2 => by
    rw [mem_rowsOf] at hg2
    obtain ⟨v, hv, e⟩ := hg2
    rcases List.mem_cons.1 hv with rfl | hv
    · rcases hb with hb | hb
      · exact Or.inl (mem_rowsOf.2 ⟨vg, List.mem_cons_self .., by rw [← hb]; exact e⟩)
      · exact Or.inr (hb g e)
    · exact Or.inl (mem_rowsOf.2 ⟨v, List.mem_cons_of_mem _ hv, e⟩)
  have hk : ∀ g, B ≤ g → g < w.heap.size → g ∉ rowsOf (vg :: vi :: V) → w2.heap[g]? = w.heap[g]? := fun g _ h2 h3 => hg.block g h2 (fun e => h3 (mem_rowsOf.2 ⟨vg, List.mem_cons_self .., e.symm⟩))
  exact ⟨h.len, h.kinds.step hg.size hk hr, ho, own_grown h.items hg (fun g hv e => h.gi g e.symm hv), fun i hi hi' => (h.comps i hi hi').step hg.size hk hr (fun g hv => hg.block g ((h.comps i hi hi').lt g hv).2 (fun e => h.gc g e.symm i hi' hv)), h.far⟩
/-- the row of items is written: its items are those of the elder row, in another order or fewer -/
theorem OW.setItems (h : OW w B y ak vg vi V) {vi2 : Value} {I : List ItemV} {V2 : List Value} (hg : w.grownBy w2 vi.ownBlock) (hl : V2.length = I.length) (ho : w2.ownsRow B 33 3 vi2 I.length (icells I V2)) (hb : vi2.ownBlock = vi.ownBlock ∨ ∀ g, vi2.ownBlock = some g → w.heap.size ≤ g)
    (hV : ∀ i (h : i < I.length) (h' : i < V2.length), ∃ k, ∃ (h1 : k < y.items.length) (h2 : k < V.length), V2[i] = V[k] ∧ I[i].comps = y.items[k].comps) (hf : ∀ i j (h : i < V2.length) (h' : j < V2.length), i ≠ j → ∀ g, V2[i].ownBlock = some g → V2[j].ownBlock ≠ some g) : OW w2 B ⟨y.kinds, y.gens, I⟩ ak vg vi2 V2 := by
  have hr : ∀ g ∈ rowsOf (vg :: vi2 :: V2), g ∈ rowsOf (vg :: vi :: V) ∨ w.heap.size ≤ g := fun g hg2 => by
    rw [mem_rowsOf] at hg2
    obtain ⟨v, hv, e⟩ := hg2
    rcases List.mem_cons.1 hv with rfl | hv
    · exact Or.inl (mem_rowsOf.2 ⟨v, List.mem_cons_self .., e⟩)
    · rcases List.mem_cons.1 hv with rfl | hv
      · rcases hb with hb | hb
        · exact Or.inl (mem_rowsOf.2 ⟨vi, by simp, by rw [← hb]; exact e⟩)
        · exact Or.inr (hb g e)
      · obtain ⟨i, hi, rfl⟩ := List.mem_iff_getElem.1 hv
        obtain ⟨k, h1, h2, h3, _⟩ := hV i (by omega) hi
        exact Or.inl (mem_rowsOf.2 ⟨V[k], by simp, by rw [← h3]; exact e⟩)
  have hk : ∀ g, B ≤ g → g < w.heap.size → g ∉ rowsOf (vg :: vi :: V) → w2.heap[g]? = w.heap[g]? := fun g _ h2 h3 => hg.block g h2 (fun e => h3 (mem_rowsOf.2 ⟨vi, by simp, e.symm⟩))
  refine ⟨hl, h.kinds.step hg.size hk hr, own_grown h.gens hg (fun g hv e => h.gi g hv e.symm), ho, fun i hi hi' => ?_, hf⟩
  obtain ⟨k, h1, h2, h3, h4⟩ := hV i hi hi'
  rw [h3, h4]
  exact (h.comps k h1 h2).step hg.size hk hr (fun g hv => hg.block g ((h.comps k h1 h2).lt g hv).2 (fun e => h.ic g e.symm k h2 hv))
theorem getElem_eraseIdx' {α : Type} (l : List α) (i j : Nat) (h : j < (l.eraseIdx i).length) : ∃ k, ∃ (hk : k < l.length), (l.eraseIdx i)[j] = l[k] ∧ k = (if j < i then j else j + 1) := by
  by_cases hi : i < l.length
  · rw [List.length_eraseIdx_of_lt hi] at h
    rw [List.getElem_eraseIdx]
    split
    · exact ⟨j, by omega, rfl, rfl⟩
    · exact ⟨j + 1, by omega, rfl, rfl⟩
  · have e := List.eraseIdx_of_length_le (l := l) (k := i) (by omega)
    rw [e] at h
    refine ⟨j, h, by simp [e], by rw [if_pos (by omega)]⟩
/-- an item is deleted -/
theorem OW.delItem (h : OW w B y ak vg vi V) {vi2 : Value} {i : Nat} (hi : i < y.items.length) (hg : w.grownBy w2 vi.ownBlock) (ho : w2.ownsRow B 33 3 vi2 (y.items.length - 1) ((icells y.items V).take (i * 3) ++ (icells y.items V).drop ((i + 1) * 3))) (hb : vi2.ownBlock = vi.ownBlock) : OW w2 B ⟨y.kinds, y.gens, y.items.eraseIdx i⟩ ak vg vi2 (V.eraseIdx i) := by
  have hl := h.len
  refine h.setItems hg (by rw [List.length_eraseIdx_of_lt (by omega), List.length_eraseIdx_of_lt hi, hl]) ?_ (Or.inl hb) (fun j hj hj' => ?_) (fun a b ha hb2 hab g hga => ?_)
  · rw [List.length_eraseIdx_of_lt hi]
    rw [icells_take, icells_drop, ← icells_app (by simp; omega), ← List.eraseIdx_eq_take_drop_succ, ← List.eraseIdx_eq_take_drop_succ] at ho
    exact ho
  · obtain ⟨k, hk, e1, e2⟩ := getElem_eraseIdx' V i j hj'
    obtain ⟨k', hk', e1', e2'⟩ := getElem_eraseIdx' y.items i j hj
    obtain rfl : k = k' := by rw [e2, e2']
    exact ⟨k, hk', hk, e1, by rw [e1']⟩
  · obtain ⟨k, hk, e1, e2⟩ := getElem_eraseIdx' V i a ha
    obtain ⟨k', hk', e1', e2'⟩ := getElem_eraseIdx' V i b hb2
    rw [e1] at hga
    rw [e1']
    exact h.far k k' hk hk' (by rw [e2, e2']; split <;> split <;> omega) g hga
end
theorem own_type {w : World} {B e size n g : Nat} {v : Value} {xs : List Value} (h : w.ownsRow B e size v n xs) (hg : v.ownBlock = some g) : B ≤ g ∧ ∃ cs fr, w.heap[g]? = some (.cells cs e fr) := by
  rcases h.2 with ⟨rfl, _⟩ | ⟨g', cap, cur, rfl, hb, hh, _⟩
  · cases hg
  · injection hg with hg
    have hg : g' = g := hg
    subst hg
    exact ⟨hb, _, _, hh⟩
/-- a copy's kinds stay, whatever is written into rows of other types -/
theorem OwnK.stays {w : World} {G B : Nat} {R : List Nat} {a : Option Addr} {n c : Nat} {ks : List KindV} {V : List Value} (h : OwnK w G (.slice a n c) ks V) (hn : ks.length = n) (hB : B ≤ G) (hR : ∀ g ∈ R, ∃ cs t fr, w.heap[g]? = some (.cells cs t fr) ∧ 58 ≠ t ∧ 55 ≠ t) : Stays B R (fun w => SlAt 2 KindAt w a ks) w := fun w2 hs hk => by
  subst hn
  have key : ∀ (e size n lo : Nat) (v : Value) (xs : List Value), (58 = e ∨ 55 = e) → G ≤ lo → w.ownsRow lo e size v n xs → w2.ownsRow lo e size v n xs := fun e size n lo v xs he hlo ho => own_keep ho (fun g hg => by
    obtain ⟨h1, cs, fr, h2⟩ := own_type ho hg
    refine hk g (by omega) (own_lt ho g hg).2 (fun hm => ?_)
    obtain ⟨cs', t, fr', h3, h4, h5⟩ := hR g hm
    rw [h2] at h3
    injection h3 with h3
    injection h3 with _ h3 _
    rcases he with he | he
    · exact h4 (he.trans h3)
    · exact h5 (he.trans h3))
  obtain ⟨a2, c2, e, _, _, hz⟩ := sl_of_row rfl (key _ _ _ _ _ _ (Or.inl rfl) (Nat.le_refl _) h.row) ⟨h.len, fun i hi hi' => by
    obtain ⟨hf, hs2⟩ := h.fs i hi hi'
    exact ⟨_, ⟨key _ _ _ _ _ _ (Or.inr rfl) (by omega) hf.1, hf.2⟩, hs2⟩⟩
  injection e with e
  subst e
  exact hz
theorem OwnK.other {w w' : World} {G X : Nat} {v : Value} {ks : List KindV} {V : List Value} {cs : Array Value} {t : TypeId} {fr : Nat × Nat} (h : OwnK w G v ks V) (hX : w.heap[X]? = some (.cells cs t fr)) (h1 : 58 ≠ t) (h2 : 55 ≠ t) (hg : w.grownBy w' (some X)) : OwnK w' G v ks V :=
  ⟨h.len, own_gbT h.row hX h1 hg, h.blk, fun i hi hi' => ⟨⟨own_gbT (h.fs i hi hi').1.1 hX h2 hg, (h.fs i hi hi').1.2⟩, (h.fs i hi hi').2⟩, h.far⟩
theorem COwnS.stays {lo B : Nat} {R : List Nat} {w : World} {v : Value} {l : List CompV} (h : COwnS lo w v l) (hB : B ≤ lo) (hR : ∀ g ∈ R, g < lo ∨ ∃ cs t fr, w.heap[g]? = some (.cells cs t fr) ∧ 3 ≠ t) : COwn B R w v l := by
  obtain ⟨U, h1, h2, h3⟩ := h
  refine ⟨U, h1, own_lower h2 hB, fun j hj hj' => ?_⟩
  have ho := h3 j hj hj'
  obtain ⟨a, c, e⟩ := own_slC ho
  refine ⟨a, c, e, fun w2 hs hk => ?_⟩
  have ho2 : w2.ownsRow lo 3 1 U[j] l[j].vals.length (vints .i64 l[j].vals) := own_keep ho (fun g hg => by
    obtain ⟨q1, cs, fr, q2⟩ := own_type ho hg
    refine hk g (by omega) (own_lt ho g hg).2 (fun hm => ?_)
    rcases hR g hm with h5 | ⟨cs', t, fr', h5, h6⟩
    · omega
    · rw [q2] at h5
      injection h5 with h5
      injection h5 with _ h5 _
      exact h6 h5)
  rw [e] at ho2
  exact IntsAt.of_own ho2 rfl
/-- a copy is a world of the call's own -/
theorem OW.of_copy {w : World} {B Gk S : Nat} {y : WorldV} {a : Option Addr} {c : Nat} {Vk : List Value} {vg vi : Value} {V : List Value} (hl : V.length = y.items.length) (hk : OwnK w Gk (.slice a y.kinds.length c) y.kinds Vk) (hB : B ≤ Gk) (hg : w.ownsRow B 3 1 vg y.gens.length (vints .i64 y.gens)) (hgl : ∀ g, vg.ownBlock = some g → g < S)
    (hi : w.ownsRow B 33 3 vi y.items.length (icells y.items V)) (hc : ∀ i (h : i < y.items.length) (h' : i < V.length), COwnS S w V[i] y.items[i].comps) (hS : B ≤ S) (hf : ∀ i j (h : i < V.length) (h' : j < V.length), i ≠ j → ∀ g, V[i].ownBlock = some g → V[j].ownBlock ≠ some g) : OW w B y a vg vi V := by
  have ht : ∀ g ∈ rowsOf (vg :: vi :: V), (vg.ownBlock = some g ∧ ∃ cs fr, w.heap[g]? = some (.cells cs 3 fr)) ∨ (∃ cs fr, w.heap[g]? = some (.cells cs 33 fr)) ∨ (∃ cs fr, w.heap[g]? = some (.cells cs 60 fr)) := fun g hm => by
    obtain ⟨v, hv, e⟩ := mem_rowsOf.1 hm
    rcases List.mem_cons.1 hv with rfl | hv
    · exact Or.inl ⟨e, (own_type hg e).2⟩
    · rcases List.mem_cons.1 hv with rfl | hv
      · exact Or.inr (Or.inl (own_type hi e).2)
      · obtain ⟨i, hi2, rfl⟩ := List.mem_iff_getElem.1 hv
        obtain ⟨U, _, h2, _⟩ := hc i (by omega) hi2
        exact Or.inr (Or.inr (own_type h2 e).2)
  refine ⟨hl, hk.stays rfl hB (fun g hm => ?_), hg, hi, fun i h1 h2 => (hc i h1 h2).stays hS (fun g hm => ?_), hf⟩
  · rcases ht g hm with ⟨_, cs, fr, h⟩ | ⟨cs, fr, h⟩ | ⟨cs, fr, h⟩
    · exact ⟨_, _, _, h, by decide, by decide⟩
    · exact ⟨_, _, _, h, by decide, by decide⟩
    · exact ⟨_, _, _, h, by decide, by decide⟩
  · rcases ht g hm with ⟨e, _⟩ | ⟨cs, fr, h⟩ | ⟨cs, fr, h⟩
    · exact Or.inl (hgl g e)
    · exact Or.inr ⟨_, _, _, h, by decide⟩
    · exact Or.inr ⟨_, _, _, h, by decide⟩
end Go.Proofs.Ytpilpkbblkhnaaa
end
