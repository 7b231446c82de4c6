/- kind.Copy. -/
import Derived.Test.YtenfegdhbbdinaaDoorKindCells
import Derived.Test.YtenfegdhbbdinaaDoorOwn
import Derived.Test.YtenfegdhbbdinaaDoorRegMore
import Derived.Deep.LoopGhost
import Derived.Shelf.Abstract
namespace Go.Proofs.YtenfegdhbbdinaaDoor
open Go.ChangeShapes Go.WideShapes Go.ChangeAt Go.RowKit Go.Nm Go.Mem
set_option linter.unusedVariables false
theorem inf_kind3 : (Tryd.prog.info? 25).map (fun i => (i.zero, i.size, i.bytes)) = some (some (.agg #[.string ByteArray.empty, .slice none 0 0]), 2, 40) := by kernel_rfl
theorem inf_fld3 : (Tryd.prog.info? 39).map (fun i => (i.zero, i.size, i.bytes)) = some (some (.agg #[.string ByteArray.empty, .int .i64 0, .int .i64 0]), 3, 32) := by kernel_rfl
def F_kc (BB G n k m : Nat) (q : ByteArray) (av : Option Addr) (cv : Nat) (y : KindV) (j : Nat) (v : Value) (w : World) : Prop :=
  match j with
  | 0 => v = .slice (some ⟨G, 0, none⟩) n n
  | 1 => v = .int .i64 k
  | 2 => v = .pointer (some ⟨BB, 0, none⟩)
  | 3 => v = .string q
  | 4 => v = .pointer (some ⟨BB, 1, none⟩)
  | 5 => v = .slice av m cv
  | 6 => ∃ a c, v = .slice a m c ∧ m ≤ c ∧ c ≤ 9223372036854775807 ∧ SlAt 3 FieldAt w a y.fields ∧ (∀ x, a = some x → BB < x.block)
  | 7 => ∃ a c, v = .agg #[.string q, .slice a m c] ∧ m ≤ c ∧ c ≤ 9223372036854775807 ∧ SlAt 3 FieldAt w a y.fields ∧ (∀ x, a = some x → BB < x.block)
  | 8 => v = .pointer (some ⟨G, k * 2, none⟩)
  | _ => True
theorem F_kc_mono (BB G n k m : Nat) (q : ByteArray) (av : Option Addr) (cv : Nat) (y : KindV) : Facts (F_kc BB G n k m q av cv y) := ⟨by
  intro j v w w' h hb
  unfold F_kc at h ⊢
  split at h
  all_goals first
    | exact h
    | (obtain ⟨a, c, e, h1, h2, hi, hx⟩ := h; exact ⟨a, c, e, h1, h2, hi.below FieldAt.abides hb, hx⟩)
    | trivial⟩
/-- a kind in the making: its fields lie in another block than the row -/
def KindNew (G : Nat) (w : World) (i : Nat) (y : KindV) : Prop := w.cell? ⟨G, i, none⟩ = some (.string y.name) ∧ y.name.size ≤ 9223372036854775807 ∧ ∃ a c, w.cell? ⟨G, i + 1, none⟩ = some (.slice a y.fields.length c) ∧ y.fields.length ≤ c ∧ c ≤ 9223372036854775807 ∧ SlAt 3 FieldAt w a y.fields ∧ (∀ x, a = some x → G < x.block)
theorem flds_far {w : World} {a : Option Addr} {l : List FieldV} (h : SlAt 3 FieldAt w a l) {p : Addr} (hx : ∀ x, a = some x → x.block ≠ p.block) (v : Value) : SlAt 3 FieldAt (w.setCell p v) a l := fun h0 => by
  obtain ⟨x, e, h1, h2⟩ := h h0
  refine ⟨x, e, by simpa using h1, fun i hi => ?_⟩
  obtain ⟨k0, k1, k2, k3⟩ := h2 i hi
  have hb := block_of_add x (i * 3)
  refine ⟨?_, ?_, ?_, k3⟩
  · rw [cell_set_ne (fun e2 => hx x e (by rw [e2, hb]))]; exact k0
  · rw [cell_set_ne (fun e2 => hx x e (by rw [e2]; exact hb.symm))]; exact k1
  · rw [cell_set_ne (fun e2 => hx x e (by rw [e2]; exact hb.symm))]; exact k2
theorem KindNew.below {G : Nat} {w w' : World} {i : Nat} {y : KindV} (h : KindNew G w i y) (hb : Below w.heap.size w w') : KindNew G w' i y := by
  obtain ⟨h1, hs, a, c, h2, c1, c2, h3, h4⟩ := h
  exact ⟨cell_abides h1 hb, hs, a, c, cell_abides h2 hb, c1, c2, h3.below FieldAt.abides hb, h4⟩
theorem KindNew.far {G : Nat} {w : World} {i : Nat} {y : KindV} (h : KindNew G w i y) (j : Nat) (v : Value) (n1 : j ≠ i) (n2 : j ≠ i + 1) : KindNew G (w.setCell ⟨G, j, none⟩ v) i y := by
  obtain ⟨h1, hs, a, c, h2, c1, c2, h3, h4⟩ := h
  exact ⟨by rw [cell_set_ne (fun e => n1 (by injection e))]; exact h1, hs, a, c, by rw [cell_set_ne (fun e => n2 (by injection e))]; exact h2, c1, c2, flds_far h3 (fun x e => by have := h4 x e; show x.block ≠ G; omega) v, h4⟩
theorem KindNew.at {G : Nat} {w : World} {i : Nat} {y : KindV} (h : KindNew G w i y) : KindAt w ⟨G, i, none⟩ y := by
  obtain ⟨h1, hs, a, c, h2, c1, c2, h3, _⟩ := h
  exact ⟨h1, hs, a, c, h2, c1, c2, h3⟩
theorem KindNew.new {G : Nat} {w : World} {i : Nat} {y : KindV} {a : Option Addr} {c : Nat} {o1 o2 : Value} (hs : y.name.size ≤ 9223372036854775807) (h1 : w.cell? ⟨G, i, none⟩ = some o1) (h2 : w.cell? ⟨G, i + 1, none⟩ = some o2) (c1 : y.fields.length ≤ c) (c2 : c ≤ 9223372036854775807) (hi : SlAt 3 FieldAt w a y.fields) (hx0 : ∀ x, a = some x → G < x.block) :
    KindNew G ((w.setCell ⟨G, i, none⟩ (.string y.name)).setCell ⟨G, i + 1, none⟩ (.slice a y.fields.length c)) i y := by
  have hx : ∀ x, a = some x → x.block ≠ G := fun x e => by have := hx0 x e; omega
  have hne : (⟨G, i + 1, none⟩ : Addr) ≠ ⟨G, i, none⟩ := fun e => by injection e with _ e; omega
  refine ⟨?_, hs, a, c, ?_, c1, c2, flds_far (flds_far hi hx _) hx _, hx0⟩
  · rw [cell_set_ne hne]; exact cell_set_eq h1
  · exact cell_set_eq (u := o2) (by rw [cell_set_ne hne.symm]; exact h2)
set_option maxHeartbeats 8000000 in
theorem kind_Copy (l : List KindV) (a : Option Addr) (n cap : Nat) (hn : l.length = n) (h1 : n ≤ 3518437208780) (hv : ∀ y ∈ l, y.fields.length ≤ 4398046510976) (W : World) (hz : SlAt 2 KindAt W a l) :
    Calls Tryd.prog 25 #[.slice a n cap] W fun e w' => (∃ a c, e = .returned (.slice a n c) ∧ SlAt 2 KindAt w' a l) ∧ Below W.heap.size W w' := by
  have HN := Lib.hid hn
  have HZ := Lib.hid hz
  have HV := Lib.hid hv
  clear hn hz hv
  go_enter Tryd.func25, Tryd.ntmps25
  go_wp2_with (at_make; (refine wpList_make_blk (z := .agg #[.string ByteArray.empty, .slice none 0 0]) (sz := 2) (bytes := 40) (e := 25) rfl _ _ 22 rfl (h2 := inf_kind3) (h1 := Tryd.underlying22) .i64 .i64 (n : Int) (n : Int) n rfl rfl rfl rfl ?b1 ?b2 ?_; (case b1 => omega); (case b2 => (unfold maxLen; omega))))
  intro w1 hblk hb1 hs1
  obtain ⟨G, hG⟩ : ∃ G, G = W.heap.size := ⟨_, rfl⟩
  rw [← hG] at hblk hs1 ⊢
  have HG := Lib.hid hG
  have HBLK := Lib.hid hblk
  have HB1 := Lib.hid hb1
  clear hG hblk hb1 hs1
  go_wp2_with fail
  go_loopg [4, 5, 11] n (fun gk v4 v5 vi wx => ∃ k : Nat, k ≤ n ∧ gk = n - k ∧ vi = .int .i64 k ∧ Blk wx G 25 (n * 2) ∧ (∀ j (h : j < l.length), j < k → KindNew G wx (j * 2) l[j]) ∧ Below W.heap.size W wx)
  case atStart => exact ⟨0, Nat.zero_le _, rfl, rfl, HBLK.out, fun j h h2 => absurd h2 (by omega), HB1.out⟩
  case round =>
    obtain ⟨k, hk, g2, rfl, hblk, hat, hb⟩ := hrel
    have G2 := Lib.hid g2
    have HB := Lib.hid hb
    have HBLK2 := Lib.hid hblk
    have HAT := Lib.hid hat
    have hgl := hblk.lt
    clear g2 hb hblk hat HBLK HB1
    by_cases hlt : k < n
    · obtain ⟨x, rfl, hx, hi⟩ := (HZ.out.below KindAt.abides HB.out) (by rw [HN.out]; omega)
      obtain ⟨c0, hnm, av, cv, c1, hc1, hc2, hv⟩ := hi k (by rw [HN.out]; exact hlt)
      obtain ⟨y, hy⟩ : ∃ y, y = l[k]'(by rw [HN.out]; exact hlt) := ⟨_, rfl⟩
      rw [← hy] at c0 c1 hv hnm hc1
      have hm : y.fields.length ≤ 4398046510976 := HV.out y (by rw [hy]; exact List.getElem_mem _)
      obtain ⟨m, hm2⟩ : ∃ m, m = y.fields.length := ⟨_, rfl⟩
      rw [← hm2] at c1 hm hc1
      obtain ⟨q, hq⟩ : ∃ q, q = y.name := ⟨_, rfl⟩
      rw [← hq] at c0
      have HY := Lib.hid hy
      have HM := Lib.hid hm2
      have HQ := Lib.hid hq
      have HNM := Lib.hid hnm
      clear hi hy hm2 hq hnm
      have hb0 := (Below.refl wr.heap.size wr).alloc (Nat.le_refl _) (.cells #[.string q, .slice av m cv] 25)
      have HI2 := Lib.hid (hv.below FieldAt.abides hb0)
      clear hv
      go_wp2_with fail
      have B0 : (wr.alloc (.cells #[.string q, .slice av m cv] 25)).cell? ⟨wr.heap.size, 0, none⟩ = some (.string q) := by simp
      have B1 : (wr.alloc (.cells #[.string q, .slice av m cv] 25)).cell? ⟨wr.heap.size, 1, none⟩ = some (.slice av m cv) := by simp
      refine wp_region_facts rfl 9 (by kernel_rfl) (F_kc wr.heap.size G n k m q av cv y) (F_kc_mono wr.heap.size G n k m q av cv y) ?_ ?_
      · refine ⟨?_, ?_, ?_, ?_, ?_, ?_, ?_, ?_, ?_, trivial⟩
        · intro vs w' F hb hd hF hl
          have e := (hF 3).trans (look_out _ 3 _ _ (by kernel_rfl))
          exact one_move _ rfl (by first | exact Or.inl rfl | exact Or.inr rfl) ⟨_, rfl, Below.refl _ _, e⟩
        · intro vs w' F hb hd hF hl
          have e := (hF 4).trans (look_out _ 4 _ _ (by kernel_rfl))
          exact one_move _ rfl (by first | exact Or.inl rfl | exact Or.inr rfl) ⟨_, rfl, Below.refl _ _, e⟩
        · intro vs w' F hb hd hF hl
          have e := (hF 5).trans (look_out _ 5 _ _ (by kernel_rfl))
          exact one_field _ _ _ rfl rfl _ _ e _ (fun w => by kernel_rfl) ⟨_, rfl, Below.refl _ _, rfl⟩
        · intro vs w' F hb hd hF hl
          have e := ((hF 18).trans (look_at _ 18 2 _ _ (by kernel_rfl) (by kernel_rfl) hl)).trans (dep_of (Fact := F_kc wr.heap.size G n k m q av cv y) hd 2 (by kernel_rfl))
          exact one_load _ _ rfl rfl _ _ e (cell_abides B0 hb) (by kernel_rfl) ⟨_, rfl, Below.refl _ _, rfl⟩
        · intro vs w' F hb hd hF hl
          have e := (hF 5).trans (look_out _ 5 _ _ (by kernel_rfl))
          exact one_field _ _ _ rfl rfl _ _ e _ (fun w => by kernel_rfl) ⟨_, rfl, Below.refl _ _, rfl⟩
        · intro vs w' F hb hd hF hl
          have e := ((hF 20).trans (look_at _ 20 4 _ _ (by kernel_rfl) (by kernel_rfl) hl)).trans (dep_of (Fact := F_kc wr.heap.size G n k m q av cv y) hd 4 (by kernel_rfl))
          exact one_load _ _ rfl rfl _ _ e (cell_abides B1 hb) (by kernel_rfl) ⟨_, rfl, Below.refl _ _, rfl⟩
        · intro vs w' F hb hd hF hl
          have e := (((hF 21).trans (look_at _ 21 5 _ _ (by kernel_rfl) (by kernel_rfl) hl)).trans (dep_of (Fact := F_kc wr.heap.size G n k m q av cv y) hd 5 (by kernel_rfl)))
          refine wpList_append_cells rfl _ _ 23 rfl w'.heap.size 39 (.agg #[.string ByteArray.empty, .int .i64 0, .int .i64 0]) 3 32 Tryd.underlying23 inf_fld3 rfl (by decide) (.slice none 0 0) 0 [] rfl (World.ownsRow_nil _ _ _ _) av m cv (fvals y.fields) e (by rw [fvals_len, HM.out]) (cells_flds (HI2.out.below FieldAt.abides hb)) (fvals_one _) (by unfold maxLen; omega) (by omega) (Nat.le_refl _) ?_
          intro v2 w2 hown hg hor
          have hsz := hb.size
          simp at hsz
          rw [List.nil_append, Nat.zero_add] at hown
          obtain ⟨a2, c2, rfl, hc1, hc2, hs2, hx2⟩ := flds_own HM.out.symm hown (flds_names HI2.out)
          exact ⟨_, rfl, (Below.refl _ _).grown hg (Nat.le_refl _) (fun g h => by cases h), a2, c2, rfl, hc1, hc2, hs2, fun x hx => by have := hx2 x hx; omega⟩
        · intro vs w' F hb hd hF hl
          obtain ⟨a2, c2, hv2, hr2⟩ := (dep_of (Fact := F_kc wr.heap.size G n k m q av cv y) hd 6 (by kernel_rfl))
          have e1 := (((hF 19).trans (look_at _ 19 3 _ _ (by kernel_rfl) (by kernel_rfl) hl)).trans (dep_of (Fact := F_kc wr.heap.size G n k m q av cv y) hd 3 (by kernel_rfl)))
          have e2 := ((hF 22).trans (look_at _ 22 6 _ _ (by kernel_rfl) (by kernel_rfl) hl)).trans hv2
          exact one_build _ _ rfl rfl #[(0, .string q), (1, .slice a2 m c2)] (parts2 e1 e2) (.agg #[.string q, .slice a2 m c2]) (fun w => by kernel_rfl) ⟨_, rfl, Below.refl _ _, a2, c2, rfl, hr2⟩
        · intro vs w' F hb hd hF hl
          have ex := (((hF 16).trans (look_at _ 16 0 _ _ (by kernel_rfl) (by kernel_rfl) hl)).trans (dep_of (Fact := F_kc wr.heap.size G n k m q av cv y) hd 0 (by kernel_rfl)))
          have ey := (((hF 17).trans (look_at _ 17 1 _ _ (by kernel_rfl) (by kernel_rfl) hl)).trans (dep_of (Fact := F_kc wr.heap.size G n k m q av cv y) hd 1 (by kernel_rfl)))
          exact one_index 22 _ _ rfl rfl (.slice (some ⟨G, 0, none⟩) n n) (.int .i64 k) (.pointer (some ⟨G, k * 2, none⟩)) ex ey (fun w => by clear hb hd hF hl ex ey; go_simp) ⟨_, rfl, Below.refl _ _, rfl⟩
      · intro vs W1 hl hb hI
        obtain ⟨a8, c8, i7, n8, m8, hi8, hx8⟩ := hI 7 (by omega)
        have i8 : vs.getD 8 undef = .pointer (some ⟨G, k * 2, none⟩) := hI 8 (by omega)
        obtain ⟨v0, v1, v2, v3, v4, v5, v6, v7, v8, v9, rfl⟩ := list10 hl
        replace i7 : v7 = .agg #[.string q, .slice a8 m c8] := i7
        replace i8 : v8 = .pointer (some ⟨G, k * 2, none⟩) := i8
        subst i7 i8
        have hblk1 := (HBLK2.out.below hb0).below hb
        obtain ⟨o1, ho1⟩ := hblk1.cell (k * 2) (by omega)
        obtain ⟨o2, ho2⟩ := hblk1.cell (k * 2 + 1) (by omega)
        have f1 := hblk1.frozen (k * 2)
        have f2 := hblk1.frozen (k * 2 + 1)
        have hbw : Below wr.heap.size wr W1 := hb0.trans (hb.mono (by simp))
        have hbn : Below W.heap.size W ((W1.setCell ⟨G, k * 2, none⟩ (.string q)).setCell ⟨G, k * 2 + 1, none⟩ (.slice a8 m c8)) := ((HB.out.trans (hbw.mono HB.out.size)).setCell (by rw [← HG.out]; exact Nat.le_refl _) _).setCell (by rw [← HG.out]; exact Nat.le_refl _) _
        have HBN := Lib.hid hbn
        have HBK := Lib.hid ((hblk1.set (k * 2) (.string q)).set (k * 2 + 1) (.slice a8 m c8))
        have hatn : ∀ j (h : j < l.length), j < k + 1 → KindNew G ((W1.setCell ⟨G, k * 2, none⟩ (.string q)).setCell ⟨G, k * 2 + 1, none⟩ (.slice a8 m c8)) (j * 2) l[j] := by
          intro j h hj
          by_cases hjk : j < k
          · exact (((HAT.out j h hjk).below hbw).far _ _ (by omega) (by omega)).far _ _ (by omega) (by omega)
          · obtain rfl : j = k := by omega
            rw [← HY.out, HQ.out, HM.out]
            exact KindNew.new HNM.out ho1 ho2 (by rw [← HM.out]; exact n8) m8 hi8 (fun x hx => by have := hx8 x hx; omega)
        have HATN := Lib.hid hatn
        clear hI hl hb hbw hbn hblk1 hatn hi8 hx8 n8 m8 HI2 hb0 B0 B1
        simp only [fillAll, Act.put, List.setIfInBounds_toArray, List.set_cons_succ, List.set_cons_zero]
        go_wp2
        go_roundg (n - (k + 1))
        case measure => rw [G2.out]; omega
        case rel => exact ⟨k + 1, hlt, rfl, by go_num, HBK.out, HATN.out, HBN.out⟩
    · have hke : k = n := by omega
      have HK := Lib.hid hke
      clear hke
      go_wp2_with fail
      go_ret
      refine ⟨⟨some ⟨G, 0, none⟩, n, rfl, fun h0 => ⟨_, rfl, hgl, fun i hi => ?_⟩⟩, HB.out⟩
      have := HAT.out i hi (by rw [HK.out, ← HN.out]; exact hi)
      rw [add_zero_block]; exact this.at
end Go.Proofs.YtenfegdhbbdinaaDoor
