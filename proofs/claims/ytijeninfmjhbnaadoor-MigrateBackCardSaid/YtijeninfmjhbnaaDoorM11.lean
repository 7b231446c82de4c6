/- Lemmas for the law MigrateBack: KindCopy, OwnK, DelM. No conditions. -/
import Derived.Test.YtijeninfmjhbnaaDoorM10
import Derived.Test.YtijeninfmjhbnaaDoorM03
import Derived.Test.YtijeninfmjhbnaaDoorM06
import Derived.Deep.LoopGhost
import Derived.Shelf.Abstract
import Derived.Lib.SliceRun
import Derived.Lib.SlicesDelete
/- kind.Copy. -/
section
namespace Go.Proofs.YtijeninfmjhbnaaDoor
open Go.ChangeShapes Go.WideShapes Go.ChangeAt Go.RowKit Go.Nm Go.Mem
set_option linter.unusedVariables false
theorem inf_kind3 : (Tryd.prog.info? 43).map (fun i => (i.zero, i.size, i.bytes)) = some (some (.agg #[.string ByteArray.empty, .slice none 0 0]), 2, 40) := by kernel_rfl
theorem inf_fld3 : (Tryd.prog.info? 40).map (fun i => (i.zero, i.size, i.bytes)) = some (some (.agg #[.string ByteArray.empty, .int .i64 0, .int .i64 0]), 3, 32) := by kernel_rfl
def F_kc (BB G n k m : Nat) (q : ByteArray) (av : Option Addr) (cv : Nat) (y : KindV) (j : Nat) (v : Value) (w : World) : Prop :=
  match j with
  | 0 => v = .slice (some ⟨G, 0, none⟩) n n
  | 1 => v = .int .i64 k
  | 2 => v = .pointer (some ⟨BB, 0, none⟩)
  | 3 => v = .string q
  | 4 => v = .pointer (some ⟨BB, 1, none⟩)
  | 5 => v = .slice av m cv
  | 6 => ∃ a c, v = .slice a m c ∧ m ≤ c ∧ c ≤ 9223372036854775807 ∧ SlAt 3 FieldAt w a y.fields ∧ (∀ x, a = some x → BB < x.block)
  | 7 => ∃ a c, v = .agg #[.string q, .slice a m c] ∧ m ≤ c ∧ c ≤ 9223372036854775807 ∧ SlAt 3 FieldAt w a y.fields ∧ (∀ x, a = some x → BB < x.block)
  | 8 => v = .pointer (some ⟨G, k * 2, none⟩)
  | _ => True
theorem F_kc_mono (BB G n k m : Nat) (q : ByteArray) (av : Option Addr) (cv : Nat) (y : KindV) : Facts (F_kc BB G n k m q av cv y) := ⟨by
  intro j v w w' h hb
  unfold F_kc at h ⊢
  split at h
  all_goals first
    | exact h
    | (obtain ⟨a, c, e, h1, h2, hi, hx⟩ := h; exact ⟨a, c, e, h1, h2, hi.below FieldAt.abides hb, hx⟩)
    | trivial⟩
/-- a kind in the making: its fields lie in another block than the row -/
def KindNew (G : Nat) (w : World) (i : Nat) (y : KindV) : Prop := w.cell? ⟨G, i, none⟩ = some (.string y.name) ∧ y.name.size ≤ 9223372036854775807 ∧ ∃ a c, w.cell? ⟨G, i + 1, none⟩ = some (.slice a y.fields.length c) ∧ y.fields.length ≤ c ∧ c ≤ 9223372036854775807 ∧ SlAt 3 FieldAt w a y.fields ∧ (∀ x, a = some x → G < x.block)
theorem flds_far {w : World} {a : Option Addr} {l : List FieldV} (h : SlAt 3 FieldAt w a l) {p : Addr} (hx : ∀ x, a = some x → x.block ≠ p.block) (v : Value) : SlAt 3 FieldAt (w.setCell p v) a l := fun h0 => by
  obtain ⟨x, e, h1, h2⟩ := h h0
  refine ⟨x, e, by simpa using h1, fun i hi => ?_⟩
  obtain ⟨k0, k1, k2, k3⟩ := h2 i hi
  have hb := block_of_add x (i * 3)
  refine ⟨?_, ?_, ?_, k3⟩
  · rw [cell_set_ne (fun e2 => hx x e (by rw [e2, hb]))]; exact k0
  · rw [cell_set_ne (fun e2 => hx x e (by rw [e2]; exact hb.symm))]; exact k1
  · rw [cell_set_ne (fun e2 => hx x e (by rw [e2]; exact hb.symm))]; exact k2
theorem KindNew.below {G : Nat} {w w' : World} {i : Nat} {y : KindV} (h : KindNew G w i y) (hb : Below w.heap.size w w') : KindNew G w' i y := by
  obtain ⟨h1, hs, a, c, h2, c1, c2, h3, h4⟩ := h
  exact ⟨cell_abides h1 hb, hs, a, c, cell_abides h2 hb, c1, c2, h3.below FieldAt.abides hb, h4⟩
theorem KindNew.far {G : Nat} {w : World} {i : Nat} {y : KindV} (h : KindNew G w i y) (j : Nat) (v : Value) (n1 : j ≠ i) (n2 : j ≠ i + 1) : KindNew G (w.setCell ⟨G, j, none⟩ v) i y := by
  obtain ⟨h1, hs, a, c, h2, c1, c2, h3, h4⟩ := h
  exact ⟨by rw [cell_set_ne (fun e => n1 (by injection e))]; exact h1, hs, a, c, by rw [cell_set_ne (fun e => n2 (by injection e))]; exact h2, c1, c2, flds_far h3 (fun x e => by have := h4 x e; show x.block ≠ G; omega) v, h4⟩
theorem KindNew.at {G : Nat} {w : World} {i : Nat} {y : KindV} (h : KindNew G w i y) : KindAt w ⟨G, i, none⟩ y := by
  obtain ⟨h1, hs, a, c, h2, c1, c2, h3, _⟩ := h
  exact ⟨h1, hs, a, c, h2, c1, c2, h3⟩
theorem KindNew.new {G : Nat} {w : World} {i : Nat} {y : KindV} {a : Option Addr} {c : Nat} {o1 o2 : Value} (hs : y.name.size ≤ 9223372036854775807) (h1 : w.cell? ⟨G, i, none⟩ = some o1) (h2 : w.cell? ⟨G, i + 1, none⟩ = some o2) (c1 : y.fields.length ≤ c) (c2 : c ≤ 9223372036854775807) (hi : SlAt 3 FieldAt w a y.fields) (hx0 : ∀ x, a = some x → G < x.block) :
    KindNew G ((w.setCell ⟨G, i, none⟩ (.string y.name)).setCell ⟨G, i + 1, none⟩ (.slice a y.fields.length c)) i y := by
  have hx : ∀ x, a = some x → x.block ≠ G := fun x e => by have := hx0 x e; omega
  have hne : (⟨G, i + 1, none⟩ : Addr) ≠ ⟨G, i, none⟩ := fun e => by injection e with _ e; omega
  refine ⟨?_, hs, a, c, ?_, c1, c2, flds_far (flds_far hi hx _) hx _, hx0⟩
  · rw [cell_set_ne hne]; exact cell_set_eq h1
  · exact cell_set_eq (u := o2) (by rw [cell_set_ne hne.symm]; exact h2)
set_option maxHeartbeats 8000000 in
theorem kind_Copy (l : List KindV) (a : Option Addr) (n cap : Nat) (hn : l.length = n) (h1 : n ≤ 3518437208780) (hv : ∀ y ∈ l, y.fields.length ≤ 4398046510976) (W : World) (hz : SlAt 2 KindAt W a l) :
    Calls Tryd.prog 58 #[.slice a n cap] W fun e w' => (∃ a, e = .returned (.slice a n n) ∧ SlAt 2 KindAt w' a l) ∧ Below W.heap.size W w' := by
  have HN := Lib.hid hn
  have HZ := Lib.hid hz
  have HV := Lib.hid hv
  clear hn hz hv
  go_enter Tryd.func58, Tryd.ntmps58
  go_wp2_with (at_make; (refine wpList_make_blk (z := .agg #[.string ByteArray.empty, .slice none 0 0]) (sz := 2) (bytes := 40) (e := 43) rfl _ _ 22 rfl (h2 := inf_kind3) (h1 := Tryd.underlying22) .i64 .i64 (n : Int) (n : Int) n rfl rfl rfl rfl ?b1 ?b2 ?_; (case b1 => omega); (case b2 => (unfold maxLen; omega))))
  intro w1 hblk hb1 hs1
  obtain ⟨G, hG⟩ : ∃ G, G = W.heap.size := ⟨_, rfl⟩
  rw [← hG] at hblk hs1 ⊢
  have HG := Lib.hid hG
  have HBLK := Lib.hid hblk
  have HB1 := Lib.hid hb1
  clear hG hblk hb1 hs1
  go_wp2_with fail
  go_loopg [4, 5, 11] n (fun gk v4 v5 vi wx => ∃ k : Nat, k ≤ n ∧ gk = n - k ∧ vi = .int .i64 k ∧ Blk wx G 43 (n * 2) ∧ (∀ j (h : j < l.length), j < k → KindNew G wx (j * 2) l[j]) ∧ Below W.heap.size W wx)
  case atStart => exact ⟨0, Nat.zero_le _, rfl, rfl, HBLK.out, fun j h h2 => absurd h2 (by omega), HB1.out⟩
  case round =>
    obtain ⟨k, hk, g2, rfl, hblk, hat, hb⟩ := hrel
    have G2 := Lib.hid g2
    have HB := Lib.hid hb
    have HBLK2 := Lib.hid hblk
    have HAT := Lib.hid hat
    have hgl := hblk.lt
    clear g2 hb hblk hat HBLK HB1
    by_cases hlt : k < n
    · obtain ⟨x, rfl, hx, hi⟩ := (HZ.out.below KindAt.abides HB.out) (by rw [HN.out]; omega)
      obtain ⟨c0, hnm, av, cv, c1, hc1, hc2, hv⟩ := hi k (by rw [HN.out]; exact hlt)
      obtain ⟨y, hy⟩ : ∃ y, y = l[k]'(by rw [HN.out]; exact hlt) := ⟨_, rfl⟩
      rw [← hy] at c0 c1 hv hnm hc1
      have hm : y.fields.length ≤ 4398046510976 := HV.out y (by rw [hy]; exact List.getElem_mem _)
      obtain ⟨m, hm2⟩ : ∃ m, m = y.fields.length := ⟨_, rfl⟩
      rw [← hm2] at c1 hm hc1
      obtain ⟨q, hq⟩ : ∃ q, q = y.name := ⟨_, rfl⟩
      rw [← hq] at c0
      have HY := Lib.hid hy
      have HM := Lib.hid hm2
      have HQ := Lib.hid hq
      have HNM := Lib.hid hnm
      clear hi hy hm2 hq hnm
      have hb0 := (Below.refl wr.heap.size wr).alloc (Nat.le_refl _) (.cells #[.string q, .slice av m cv] 43)
      have HI2 := Lib.hid (hv.below FieldAt.abides hb0)
      clear hv
      go_wp2_with fail
      have B0 : (wr.alloc (.cells #[.string q, .slice av m cv] 43)).cell? ⟨wr.heap.size, 0, none⟩ = some (.string q) := by simp
      have B1 : (wr.alloc (.cells #[.string q, .slice av m cv] 43)).cell? ⟨wr.heap.size, 1, none⟩ = some (.slice av m cv) := by simp
      refine wp_region_facts rfl 9 (by kernel_rfl) (F_kc wr.heap.size G n k m q av cv y) (F_kc_mono wr.heap.size G n k m q av cv y) ?_ ?_
      · refine ⟨?_, ?_, ?_, ?_, ?_, ?_, ?_, ?_, ?_, trivial⟩
        · intro vs w' F hb hd hF hl
          have e := (hF 3).trans (look_out _ 3 _ _ (by kernel_rfl))
          exact one_move _ rfl (by first | exact Or.inl rfl | exact Or.inr rfl) ⟨_, rfl, Below.refl _ _, e⟩
        · intro vs w' F hb hd hF hl
          have e := (hF 4).trans (look_out _ 4 _ _ (by kernel_rfl))
          exact one_move _ rfl (by first | exact Or.inl rfl | exact Or.inr rfl) ⟨_, rfl, Below.refl _ _, e⟩
        · intro vs w' F hb hd hF hl
          have e := (hF 5).trans (look_out _ 5 _ _ (by kernel_rfl))
          exact one_field _ _ _ rfl rfl _ _ e _ (fun w => by kernel_rfl) ⟨_, rfl, Below.refl _ _, rfl⟩
        · intro vs w' F hb hd hF hl
          have e := ((hF 18).trans (look_at _ 18 2 _ _ (by kernel_rfl) (by kernel_rfl) hl)).trans (dep_of (Fact := F_kc wr.heap.size G n k m q av cv y) hd 2 (by kernel_rfl))
          exact one_load _ _ rfl rfl _ _ e (cell_abides B0 hb) (by kernel_rfl) ⟨_, rfl, Below.refl _ _, rfl⟩
        · intro vs w' F hb hd hF hl
          have e := (hF 5).trans (look_out _ 5 _ _ (by kernel_rfl))
          exact one_field _ _ _ rfl rfl _ _ e _ (fun w => by kernel_rfl) ⟨_, rfl, Below.refl _ _, rfl⟩
        · intro vs w' F hb hd hF hl
          have e := ((hF 20).trans (look_at _ 20 4 _ _ (by kernel_rfl) (by kernel_rfl) hl)).trans (dep_of (Fact := F_kc wr.heap.size G n k m q av cv y) hd 4 (by kernel_rfl))
          exact one_load _ _ rfl rfl _ _ e (cell_abides B1 hb) (by kernel_rfl) ⟨_, rfl, Below.refl _ _, rfl⟩
        · intro vs w' F hb hd hF hl
          have e := (((hF 21).trans (look_at _ 21 5 _ _ (by kernel_rfl) (by kernel_rfl) hl)).trans (dep_of (Fact := F_kc wr.heap.size G n k m q av cv y) hd 5 (by kernel_rfl)))
          refine wpList_append_cells rfl _ _ 41 rfl w'.heap.size 40 (.agg #[.string ByteArray.empty, .int .i64 0, .int .i64 0]) 3 32 Tryd.underlying41 inf_fld3 rfl (by decide) (.slice none 0 0) 0 [] rfl (World.ownsRow_nil _ _ _ _) av m cv (fvals y.fields) e (by rw [fvals_len, HM.out]) (cells_flds (HI2.out.below FieldAt.abides hb)) (fvals_one _) (by unfold maxLen; omega) (by omega) (Nat.le_refl _) ?_
          intro v2 w2 hown hg hor
          have hsz := hb.size
          simp at hsz
          rw [List.nil_append, Nat.zero_add] at hown
          obtain ⟨a2, c2, rfl, hc1, hc2, hs2, hx2⟩ := flds_own HM.out.symm hown (flds_names HI2.out)
          exact ⟨_, rfl, (Below.refl _ _).grown hg (Nat.le_refl _) (fun g h => by cases h), a2, c2, rfl, hc1, hc2, hs2, fun x hx => by have := hx2 x hx; omega⟩
        · intro vs w' F hb hd hF hl
          obtain ⟨a2, c2, hv2, hr2⟩ := (dep_of (Fact := F_kc wr.heap.size G n k m q av cv y) hd 6 (by kernel_rfl))
          have e1 := (((hF 19).trans (look_at _ 19 3 _ _ (by kernel_rfl) (by kernel_rfl) hl)).trans (dep_of (Fact := F_kc wr.heap.size G n k m q av cv y) hd 3 (by kernel_rfl)))
          have e2 := ((hF 22).trans (look_at _ 22 6 _ _ (by kernel_rfl) (by kernel_rfl) hl)).trans hv2
          exact one_build _ _ rfl rfl #[(0, .string q), (1, .slice a2 m c2)] (parts2 e1 e2) (.agg #[.string q, .slice a2 m c2]) (fun w => by kernel_rfl) ⟨_, rfl, Below.refl _ _, a2, c2, rfl, hr2⟩
        · intro vs w' F hb hd hF hl
          have ex := (((hF 16).trans (look_at _ 16 0 _ _ (by kernel_rfl) (by kernel_rfl) hl)).trans (dep_of (Fact := F_kc wr.heap.size G n k m q av cv y) hd 0 (by kernel_rfl)))
          have ey := (((hF 17).trans (look_at _ 17 1 _ _ (by kernel_rfl) (by kernel_rfl) hl)).trans (dep_of (Fact := F_kc wr.heap.size G n k m q av cv y) hd 1 (by kernel_rfl)))
          exact one_index 22 _ _ rfl rfl (.slice (some ⟨G, 0, none⟩) n n) (.int .i64 k) (.pointer (some ⟨G, k * 2, none⟩)) ex ey (fun w => by clear hb hd hF hl ex ey; go_simp) ⟨_, rfl, Below.refl _ _, rfl⟩
      · intro vs W1 hl hb hI
        obtain ⟨a8, c8, i7, n8, m8, hi8, hx8⟩ := hI 7 (by omega)
        have i8 : vs.getD 8 undef = .pointer (some ⟨G, k * 2, none⟩) := hI 8 (by omega)
        obtain ⟨v0, v1, v2, v3, v4, v5, v6, v7, v8, v9, rfl⟩ := list10 hl
        replace i7 : v7 = .agg #[.string q, .slice a8 m c8] := i7
        replace i8 : v8 = .pointer (some ⟨G, k * 2, none⟩) := i8
        subst i7 i8
        have hblk1 := (HBLK2.out.below hb0).below hb
        obtain ⟨o1, ho1⟩ := hblk1.cell (k * 2) (by omega)
        obtain ⟨o2, ho2⟩ := hblk1.cell (k * 2 + 1) (by omega)
        have f1 := hblk1.frozen (k * 2)
        have f2 := hblk1.frozen (k * 2 + 1)
        have hbw : Below wr.heap.size wr W1 := hb0.trans (hb.mono (by simp))
        have hbn : Below W.heap.size W ((W1.setCell ⟨G, k * 2, none⟩ (.string q)).setCell ⟨G, k * 2 + 1, none⟩ (.slice a8 m c8)) := ((HB.out.trans (hbw.mono HB.out.size)).setCell (by rw [← HG.out]; exact Nat.le_refl _) _).setCell (by rw [← HG.out]; exact Nat.le_refl _) _
        have HBN := Lib.hid hbn
        have HBK := Lib.hid ((hblk1.set (k * 2) (.string q)).set (k * 2 + 1) (.slice a8 m c8))
        have hatn : ∀ j (h : j < l.length), j < k + 1 → KindNew G ((W1.setCell ⟨G, k * 2, none⟩ (.string q)).setCell ⟨G, k * 2 + 1, none⟩ (.slice a8 m c8)) (j * 2) l[j] := by
          intro j h hj
          by_cases hjk : j < k
          · exact (((HAT.out j h hjk).below hbw).far _ _ (by omega) (by omega)).far _ _ (by omega) (by omega)
          · obtain rfl : j = k := by omega
            rw [← HY.out, HQ.out, HM.out]
            exact KindNew.new HNM.out ho1 ho2 (by rw [← HM.out]; exact n8) m8 hi8 (fun x hx => by have := hx8 x hx; omega)
        have HATN := Lib.hid hatn
        clear hI hl hb hbw hbn hblk1 hatn hi8 hx8 n8 m8 HI2 hb0 B0 B1
        simp only [fillAll, Act.put, List.setIfInBounds_toArray, List.set_cons_succ, List.set_cons_zero]
        go_wp2
        go_roundg (n - (k + 1))
        case measure => rw [G2.out]; omega
        case rel => exact ⟨k + 1, hlt, rfl, by go_num, HBK.out, HATN.out, HBN.out⟩
    · have hke : k = n := by omega
      have HK := Lib.hid hke
      clear hke
      go_wp2_with fail
      go_ret
      refine ⟨⟨some ⟨G, 0, none⟩, rfl, fun h0 => ⟨_, rfl, hgl, fun i hi => ?_⟩⟩, HB.out⟩
      have := HAT.out i hi (by rw [HK.out, ← HN.out]; exact hi)
      rw [add_zero_block]; exact this.at
end Go.Proofs.YtijeninfmjhbnaaDoor
end
/- A list of kinds of the call's own: the row, and each kind's fields in a block of its own. -/
section
namespace Go.Proofs.YtijeninfmjhbnaaDoor
open Go.ChangeShapes Go.WideShapes Go.ChangeAt Go.RowKit Go.Nm Go.Mem
set_option linter.unusedVariables false
def FOwn (w : World) (lo : Nat) (v : Value) (l : List FieldV) : Prop := w.ownsRow lo 40 3 v l.length (fvals l) ∧ ∀ y ∈ l, y.name.size ≤ 9223372036854775807
theorem FOwn.below {w w' : World} {lo : Nat} {v : Value} {l : List FieldV} (h : FOwn w lo v l) (hb : Below w.heap.size w w') : FOwn w' lo v l := ⟨own_below h.1 hb, h.2⟩
theorem FOwn.lower {w : World} {lo lo2 : Nat} {v : Value} {l : List FieldV} (h : FOwn w lo v l) (hb : lo2 ≤ lo) : FOwn w lo2 v l := ⟨own_lower h.1 hb, h.2⟩
theorem FOwn.grown {w w' : World} {lo : Nat} {v : Value} {l : List FieldV} {row : Option Nat} (h : FOwn w lo v l) (hg : w.grownBy w' row) (hne : ∀ g, v.ownBlock = some g → some g ≠ row) : FOwn w' lo v l := ⟨own_grown h.1 hg hne, h.2⟩
theorem FOwn.sl {w : World} {lo : Nat} {v : Value} {l : List FieldV} (h : FOwn w lo v l) : ∃ a c, v = .slice a l.length c ∧ l.length ≤ c ∧ c ≤ 9223372036854775807 ∧ SlAt 3 FieldAt w a l ∧ (∀ x, a = some x → lo ≤ x.block) := flds_own rfl h.1 h.2
theorem FOwn.one {w : World} {lo : Nat} {v : Value} {l : List FieldV} (h : FOwn w lo v l) : v.oneCell' = true := by
  obtain ⟨a, c, rfl, _⟩ := h.sl
  rfl
theorem FOwn.lt {w : World} {lo : Nat} {v : Value} {l : List FieldV} (h : FOwn w lo v l) (g : Nat) (hg : v.ownBlock = some g) : lo ≤ g ∧ g < w.heap.size := own_lt h.1 g hg
/-- the cells of a row of kinds -/
def kcells : List KindV → List Value → List Value
  | k :: r, v :: s => .string k.name :: v :: kcells r s
  | _, _ => []
theorem kcells_len : ∀ {ks : List KindV} {V : List Value}, V.length = ks.length → (kcells ks V).length = ks.length * 2
  | [], [], _ => rfl
  | k :: r, v :: s, h => by
    have := kcells_len (ks := r) (V := s) (by simpa using h)
    simp only [kcells, List.length_cons, this]; omega
  | [], v :: s, h => by simp at h
  | k :: r, [], h => by simp at h
theorem kcells_get : ∀ {ks : List KindV} {V : List Value} (hl : V.length = ks.length) (i : Nat) (h : i < ks.length), (kcells ks V)[i * 2]? = some (.string ks[i].name) ∧ (kcells ks V)[i * 2 + 1]? = some (V[i]'(by omega))
  | [], _, _, i, h => by simp at h
  | k :: r, [], hl, i, h => by simp at hl
  | k :: r, v :: s, hl, 0, h => ⟨rfl, rfl⟩
  | k :: r, v :: s, hl, i + 1, h => by
    have := kcells_get (ks := r) (V := s) (by simpa using hl) i (by simpa using h)
    rw [show (i + 1) * 2 = i * 2 + 1 + 1 by omega]
    exact this
theorem kcells_append : ∀ {ks ks2 : List KindV} {V V2 : List Value}, V.length = ks.length → kcells (ks ++ ks2) (V ++ V2) = kcells ks V ++ kcells ks2 V2
  | [], _, [], _, _ => rfl
  | k :: r, ks2, v :: s, V2, h => by
    have := kcells_append (ks := r) (ks2 := ks2) (V := s) (V2 := V2) (by simpa using h)
    simp only [List.cons_append, kcells, this]
  | [], _, v :: s, _, h => by simp at h
  | k :: r, _, [], _, h => by simp at h
theorem kcells_take : ∀ {ks : List KindV} {V : List Value} (_ : V.length = ks.length) (i : Nat), (kcells ks V).take (i * 2) = kcells (ks.take i) (V.take i)
  | [], [], _, i => by simp [kcells]
  | k :: r, v :: s, h, 0 => rfl
  | k :: r, v :: s, h, i + 1 => by
    have := kcells_take (ks := r) (V := s) (by simpa using h) i
    rw [show (i + 1) * 2 = i * 2 + 1 + 1 by omega]
    simp only [kcells, List.take_succ_cons, this]
  | [], v :: s, h, i => by simp at h
  | k :: r, [], h, i => by simp at h
theorem kcells_drop : ∀ {ks : List KindV} {V : List Value} (_ : V.length = ks.length) (i : Nat), (kcells ks V).drop (i * 2) = kcells (ks.drop i) (V.drop i)
  | [], [], _, i => by simp [kcells]
  | k :: r, v :: s, h, 0 => rfl
  | k :: r, v :: s, h, i + 1 => by
    have := kcells_drop (ks := r) (V := s) (by simpa using h) i
    rw [show (i + 1) * 2 = i * 2 + 1 + 1 by omega]
    simp only [kcells, List.drop_succ_cons, this]
  | [], v :: s, h, i => by simp at h
  | k :: r, [], h, i => by simp at h
theorem kcells_one {ks : List KindV} : ∀ {V : List Value}, (∀ v ∈ V, v.oneCell' = true) → ∀ u ∈ kcells ks V, u.oneCell' = true := by
  induction ks with
  | nil => intro V _ u hu; cases V <;> cases hu
  | cons k r ih =>
    intro V hV u hu
    match V with
    | [] => cases hu
    | v :: s =>
      simp only [kcells, List.mem_cons] at hu
      rcases hu with rfl | rfl | hu
      · rfl
      · exact hV _ (List.mem_cons_self)
      · exact ih (fun x hx => hV x (List.mem_cons_of_mem _ hx)) u hu
/-- kinds read through a row -/
def RK (w : World) (ks : List KindV) (V : List Value) : Prop := V.length = ks.length ∧ ∀ i (h : i < ks.length) (h' : i < V.length), ∃ lo, FOwn w lo V[i] ks[i].fields ∧ ks[i].name.size ≤ 9223372036854775807
theorem sl_of_row {w : World} {B : Nat} {v : Value} {n : Nat} {ks : List KindV} {V : List Value} (hn : ks.length = n) (h : w.ownsRow B 43 2 v n (kcells ks V)) (hr : RK w ks V) : ∃ a c, v = .slice a n c ∧ n ≤ c ∧ c ≤ 9223372036854775807 ∧ SlAt 2 KindAt w a ks := by
  subst hn
  obtain ⟨_, ⟨hv, h0⟩ | ⟨g, cap, cur, hv, hb, hg, hc1, hc2, hc3, hc4⟩⟩ := h
  · exact ⟨none, 0, by rw [hv, h0], by omega, by omega, fun h => by omega⟩
  · refine ⟨some ⟨g, 0, none⟩, cap, hv, hc1, by unfold maxLen at hc2; omega, fun _ => ⟨_, rfl, lt_of_heap hg, fun i hi => ?_⟩⟩
    have cell : ∀ j u, (kcells ks V)[j]? = some u → w.cell? ⟨g, j, none⟩ = some u := by
      intro j u hu
      rw [cell_of_row _ _ _ _ _ _ hg]
      have hj : j < ks.length * 2 := by have := (List.getElem?_eq_some_iff.1 hu).1; rw [kcells_len hr.1] at this; exact this
      rw [← hc4, List.getElem?_take, if_pos hj] at hu
      simpa using hu
    obtain ⟨p0, p1⟩ := kcells_get hr.1 i hi
    obtain ⟨lo, hf, hs⟩ := hr.2 i hi (by rw [hr.1]; exact hi)
    obtain ⟨a, c, e, q1, q2, q3, _⟩ := hf.sl
    rw [add_zero_block]
    exact ⟨cell _ _ p0, hs, a, c, by show w.cell? ⟨g, i * 2 + 1, none⟩ = _; rw [cell _ _ p1, e], q1, q2, q3⟩
theorem own_gbT {w w' : World} {B e size n G : Nat} {v : Value} {xs : List Value} {cs : Array Value} {t : TypeId} {fr : Nat × Nat} (h : w.ownsRow B e size v n xs) (hG : w.heap[G]? = some (.cells cs t fr)) (hne : e ≠ t) (hg : w.grownBy w' (some G)) : w'.ownsRow B e size v n xs :=
  own_grown h hg (fun g hv e2 => by
    injection e2 with e2
    subst e2
    rcases h.2 with ⟨rfl, _⟩ | ⟨g', cap, cur, rfl, _, hh, _⟩
    · cases hv
    · have e3 : g' = g := by injection hv
      subst e3
      rw [hh] at hG
      injection hG with hG
      injection hG with _ hG _
      exact hne hG)
/-- kinds that no write into a row of another type turns -/
def TKat (w : World) (a : Option Addr) (ks : List KindV) : Prop := SlAt 2 KindAt w a ks ∧ ∀ w1, Below w.heap.size w w1 → ∀ g cs t fr w2, w1.heap[g]? = some (.cells cs t fr) → 43 ≠ t → 40 ≠ t → w1.grownBy w2 (some g) → SlAt 2 KindAt w2 a ks
theorem TKat.below {w w' : World} {a : Option Addr} {ks : List KindV} (h : TKat w a ks) (hb : Below w.heap.size w w') : TKat w' a ks := ⟨h.1.below KindAt.abides hb, fun w1 hb1 => h.2 w1 (hb.trans (hb1.mono hb.size))⟩
theorem sl_of_rowT {w : World} {B : Nat} {v : Value} {n : Nat} {ks : List KindV} {V : List Value} (hn : ks.length = n) (h : w.ownsRow B 43 2 v n (kcells ks V)) (hr : RK w ks V) : ∃ a c, v = .slice a n c ∧ n ≤ c ∧ c ≤ 9223372036854775807 ∧ TKat w a ks := by
  obtain ⟨a, c, hv, h1, h2, hs⟩ := sl_of_row hn h hr
  refine ⟨a, c, hv, h1, h2, hs, fun w1 hb1 g cs t fr w2 hg ht1 ht2 hgb => ?_⟩
  have hr2 : RK w2 ks V := ⟨hr.1, fun i hi hi' => by
    obtain ⟨lo, hf, hz⟩ := hr.2 i hi hi'
    exact ⟨lo, ⟨own_gbT (own_below hf.1 hb1) hg ht2 hgb, hf.2⟩, hz⟩⟩
  obtain ⟨a2, c2, hv2, _, _, hs2⟩ := sl_of_row hn (own_gbT (own_below h hb1) hg ht1 hgb) hr2
  rw [hv] at hv2
  injection hv2 with hv2
  rw [hv2]; exact hs2
/-- kinds of the call's own -/
structure OwnK (w : World) (G : Nat) (v : Value) (ks : List KindV) (V : List Value) : Prop where
  len : V.length = ks.length
  row : w.ownsRow G 43 2 v ks.length (kcells ks V)
  blk : v.ownBlock = some G
  fs : ∀ i (h : i < ks.length) (h' : i < V.length), FOwn w (G + 1) V[i] ks[i].fields ∧ ks[i].name.size ≤ 9223372036854775807
  far : ∀ i j (h : i < V.length) (h' : j < V.length), i ≠ j → ∀ g, V[i].ownBlock = some g → V[j].ownBlock ≠ some g
theorem OwnK.below {w w' : World} {G : Nat} {v : Value} {ks : List KindV} {V : List Value} (h : OwnK w G v ks V) (hb : Below w.heap.size w w') : OwnK w' G v ks V :=
  ⟨h.len, own_below h.row hb, h.blk, fun i hi hi' => ⟨(h.fs i hi hi').1.below hb, (h.fs i hi hi').2⟩, h.far⟩
theorem OwnK.rk {w : World} {G : Nat} {v : Value} {ks : List KindV} {V : List Value} (h : OwnK w G v ks V) : RK w ks V := ⟨h.len, fun i hi hi' => ⟨_, h.fs i hi hi'⟩⟩
theorem OwnK.one {w : World} {G : Nat} {v : Value} {ks : List KindV} {V : List Value} (h : OwnK w G v ks V) : ∀ u ∈ V, u.oneCell' = true := by
  intro u hu
  obtain ⟨i, hi, rfl⟩ := List.mem_iff_getElem.1 hu
  exact (h.fs i (by rw [← h.len]; exact hi) hi).1.one
/-- the row of kinds alone is written -/
theorem OwnK.rowed {w w' : World} {G : Nat} {v : Value} {ks : List KindV} {V : List Value} (h : OwnK w G v ks V) (hg : w.grownBy w' (some G)) (i : Nat) (hi : i < ks.length) (hi' : i < V.length) : FOwn w' (G + 1) V[i] ks[i].fields :=
  (h.fs i hi hi').1.grown hg (fun g hg' e => by injection e with e; have := (h.fs i hi hi').1.lt g hg'; omega)
/-- one kind's fields alone are written -/
theorem OwnK.elsed {w w' : World} {G : Nat} {v : Value} {ks : List KindV} {V : List Value} (h : OwnK w G v ks V) (j : Nat) (hj : j < V.length) (hg : w.grownBy w' V[j].ownBlock) (i : Nat) (hi : i < ks.length) (hi' : i < V.length) (hne : i ≠ j) : FOwn w' (G + 1) V[i] ks[i].fields :=
  (h.fs i hi hi').1.grown hg (fun g hg' e => h.far i j hi' hj hne g hg' e.symm)
theorem OwnK.rowk {w w' : World} {G : Nat} {v : Value} {ks : List KindV} {V : List Value} (h : OwnK w G v ks V) (j : Nat) (hj : j < V.length) (hg : w.grownBy w' V[j].ownBlock) : w'.ownsRow G 43 2 v ks.length (kcells ks V) :=
  own_grown h.row hg (fun g hg' e => by
    rw [h.blk] at hg'
    injection hg' with hg'
    subst hg'
    have := (h.fs j (by rw [← h.len]; exact hj) hj).1.lt G e.symm
    omega)
theorem own_of_blk {w : World} {G n : Nat} {ks : List KindV} {V : List Value} (h : Blk w G 43 (n * 2)) (hn : ks.length = n) (hl : V.length = ks.length) (hm : n ≤ maxLen) (hc : ∀ i (h : i < ks.length) (h' : i < V.length), w.cell? ⟨G, i * 2, none⟩ = some (.string ks[i].name) ∧ w.cell? ⟨G, i * 2 + 1, none⟩ = some V[i]) :
    w.ownsRow G 43 2 (.slice (some ⟨G, 0, none⟩) n n) ks.length (kcells ks V) := by
  obtain ⟨cs, h1, h2⟩ := h
  subst hn
  refine ⟨kcells_len hl, .inr ⟨G, ks.length, cs, rfl, Nat.le_refl _, h1, Nat.le_refl _, hm, h2, ?_⟩⟩
  apply List.ext_getElem?
  intro j
  by_cases hj : j < ks.length * 2
  · rw [List.getElem?_take_of_lt hj]
    have hi : j / 2 < ks.length := by omega
    obtain ⟨c0, c1⟩ := hc (j / 2) hi (by omega)
    obtain ⟨p0, p1⟩ := kcells_get hl (j / 2) hi
    rw [cell_of_row _ _ _ _ _ _ h1] at c0 c1
    rcases (show j = j / 2 * 2 ∨ j = j / 2 * 2 + 1 by omega) with e | e
    · rw [e, p0]; simpa using c0
    · rw [e, p1]; simpa using c1
  · rw [List.getElem?_eq_none (by rw [List.length_take]; omega), List.getElem?_eq_none (by rw [kcells_len hl]; omega)]
end Go.Proofs.YtijeninfmjhbnaaDoor
end
/- What is deleted from a row of the call's own: its cells. No program is named here. -/
section
namespace Go.Dl
open Go.RowKit Go.Mem
theorem gb_refl (w : World) (row : Option Nat) : w.grownBy w row := ⟨rfl, rfl, rfl, Nat.le_refl _, fun _ _ _ => rfl⟩
theorem gb_trans {a w w' : World} {row : Option Nat} (h : a.grownBy w row) (k : w.grownBy w' row) : a.grownBy w' row :=
  ⟨k.os.trans h.os, k.tape.trans h.tape, k.output.trans h.output, Nat.le_trans h.size k.size, fun j hj hr => (k.block j (Nat.lt_of_lt_of_le hj h.size) hr).trans (h.block j hj hr)⟩
theorem gb_drew {a w : World} {row : Option Nat} (h : a.grownBy w row) : a.grownBy w.drew row := ⟨h.os, h.tape, h.output, h.size, h.block⟩
theorem gb_set {a w : World} {g : Nat} (h : a.grownBy w (some g)) (i : Nat) (v : Value) : a.grownBy (w.setCell ⟨g, i, none⟩ v) (some g) :=
  gb_trans h ⟨rfl, rfl, rfl, by simp, fun k _ hk => heap_setCell_other w ⟨g, i, none⟩ k v (fun e => hk (by rw [e]))⟩
theorem own_take {w : World} {base e size n m cap : Nat} {a : Option Addr} {xs : List Value} (h : w.ownsRow base e size (.slice a n cap) n xs) (hm : m ≤ n) (h0 : 0 < n) : w.ownsRow base e size (.slice a m cap) m (xs.take (m * size)) := by
  rcases h.2 with ⟨_, h2⟩ | ⟨g, cap', cur, h1, h2, h3, h4, h5, h6, h7⟩
  · omega
  · injection h1 with e1 _ e3
    subst e1; subst e3
    refine ⟨?_, .inr ⟨g, cap, cur, rfl, h2, h3, by omega, h5, h6, ?_⟩⟩
    · rw [List.length_take, h.1, Nat.min_eq_left (Nat.mul_le_mul_right _ hm)]
    · rw [← h7, List.take_take, Nat.min_eq_left (Nat.mul_le_mul_right _ hm)]
/-- Values laid over a list. -/
def setL (xs : List Value) : Nat → List Value → List Value
  | _, [] => xs
  | o, v :: vs => setL (xs.set o v) (o + 1) vs
theorem setL_length : ∀ (vs xs : List Value) (o : Nat), (setL xs o vs).length = xs.length
  | [], _, _ => rfl
  | v :: vs, xs, o => by rw [setL, setL_length vs]; simp
theorem setL_get : ∀ (vs xs : List Value) (o j : Nat), o + vs.length ≤ xs.length → (setL xs o vs)[j]? = if o ≤ j ∧ j < o + vs.length then vs[j - o]? else xs[j]?
  | [], xs, o, j, _ => by rw [setL, if_neg (by simp)]
  | v :: vs, xs, o, j, h => by
    simp only [List.length_cons] at h ⊢
    rw [setL, setL_get vs _ (o + 1) j (by simp; omega)]
    by_cases h1 : o = j
    · subst h1
      rw [if_neg (by omega), if_pos (by omega), List.getElem?_set_self (by omega), Nat.sub_self]; rfl
    · by_cases h2 : o + 1 ≤ j ∧ j < o + 1 + vs.length
      · rw [if_pos h2, if_pos (by omega), show j - o = (j - (o + 1)) + 1 by omega, List.getElem?_cons_succ]
      · rw [if_neg h2, if_neg (by omega), List.getElem?_set_ne h1]
theorem del_cells (xs : List Value) (m k sz : Nat) (hx : xs.length = m * sz) (hk : k < m) (z : List Value) (hz : z.length = sz) :
    (setL (setL xs (k * sz) (xs.drop ((k + 1) * sz))) ((m - 1) * sz) z).take ((m - 1) * sz) = xs.take (k * sz) ++ xs.drop ((k + 1) * sz) := by
  have l1 : (xs.drop ((k + 1) * sz)).length = (m - (k + 1)) * sz := by rw [List.length_drop, hx, Nat.sub_mul]
  have e1 : (m - 1) * sz = k * sz + (m - (k + 1)) * sz := by rw [← Nat.add_mul]; congr 1; omega
  have e2 : m * sz = (m - 1) * sz + sz := by conv => lhs; rw [show m = m - 1 + 1 by omega, Nat.succ_mul]
  have e3 : (k + 1) * sz = k * sz + sz := Nat.succ_mul _ _
  generalize hA : (m - (k + 1)) * sz = A at l1 e1
  generalize hB : (m - 1) * sz = B at e1 e2 ⊢
  generalize hC : k * sz = C at e1 e3 ⊢
  apply List.ext_getElem?
  intro j
  by_cases hj : j < B
  · rw [List.getElem?_take_of_lt hj, setL_get _ _ _ _ (by rw [setL_length, hx, hz]; omega), if_neg (by omega), setL_get _ _ _ _ (by rw [hx, l1]; omega)]
    have l2 : (xs.take C).length = C := by rw [List.length_take, Nat.min_eq_left (by omega)]
    by_cases h1 : j < C
    · rw [if_neg (by omega), List.getElem?_append_left (by omega), List.getElem?_take_of_lt h1]
    · rw [if_pos (by rw [l1]; omega), List.getElem?_append_right (by omega), l2]
  · rw [List.getElem?_eq_none (by rw [List.length_take]; omega), List.getElem?_eq_none (by rw [List.length_append, List.length_take, l1]; omega)]
/-- Values stored into an owned row, one behind the other. -/
theorem own_setCells {base e size n g cap : Nat} : ∀ (vs xs : List Value) (o : Nat) (w : World), w.ownsRow base e size (.slice (some ⟨g, 0, none⟩) n cap) n xs → (w.setCells g o vs).ownsRow base e size (.slice (some ⟨g, 0, none⟩) n cap) n (setL xs o vs)
  | [], _, _, _, h => h
  | v :: vs, xs, o, w, h => by
    rw [setL]
    exact own_setCells vs _ (o + 1) _ (h.stored o v).1
theorem gb_setCells {g : Nat} : ∀ (vs : List Value) (o : Nat) (a w : World), a.grownBy w (some g) → a.grownBy (w.setCells g o vs) (some g)
  | [], _, _, _, h => h
  | v :: vs, o, a, _, h => gb_setCells vs (o + 1) a _ (gb_set h o v)
/-- 'clear' of one element. -/
theorem run_clear_one {P : Program} (w : World) (t e ty : TypeId) (z : Value) (l : List Value) (ht : P.underlying t = some (.slice e)) (hv : ∀ w, (zeroValue e).run P w = .ok z w) (hz : z.cells = l.toArray) (h1 : ∀ v ∈ l, v.oneCell' = true) (b o c : Nat)
    (hc : ∀ j, j < l.length → (w.cell? ⟨b, o + j, none⟩).isSome = true) (hf : ∀ j, j < l.length → w.frozen? ⟨b, o + j, none⟩ = false) :
    (Builtin.clear_ #[t] ty #[.slice (some ⟨b, o, none⟩) 1 c]).run P w = .ok (.tuple #[]) (w.setCells b o l) := by
  have hzc : (Builtin.zeroCells z.cells 1).toList = l := by
    rw [hz]
    simp [Builtin.zeroCells]
    apply List.ext_getElem
    · simp
    · intro i h1 h2
      simp [Nat.mod_eq_of_lt h2, h2]
  have hst := run_storeCells_cells (P := P) b o l 0 w (by simpa using hc) (by simpa using hf) h1
  simp only [Nat.add_zero] at hst
  simp [Builtin.clear_, run_underlying ht, hv, hzc, hst]
end Go.Dl
end
