/- Lemmas for the law TopBorderText: CopyC, CloneN, KindCells, KindCopy. No conditions. -/
import Derived.Test.YtfckbkhnelgjbaaM04
import Derived.Test.YtfckbkhnelgjbaaM07
import Derived.Test.YtfckbkhnelgjbaaM08
import Derived.Deep.LoopGhost
import Derived.Test.YtfckbkhnelgjbaaM05
import Derived.Shelf.Abstract
import Derived.Deep.AppendSrc
import Derived.Lib.AppendZeros
import Derived.Test.YtfckbkhnelgjbaaM03
import Derived.Test.YtfckbkhnelgjbaaM06
/- world.CopyComps. -/
section
namespace Go.Proofs.Ytfckbkhnelgjbaa
open Go.ChangeShapes Go.WideShapes Go.ChangeAt Go.RowKit Go.Mem
set_option linter.unusedVariables false
def F_cc (BB G n k m : Nat) (q : Int) (av : Option Addr) (cv : Nat) (zs : List Int) (j : Nat) (v : Value) (w : World) : Prop :=
  match j with
  | 0 => v = .slice (some ⟨G, 0, none⟩) n n
  | 1 => v = .int .i64 k
  | 2 => v = .pointer (some ⟨BB, 0, none⟩)
  | 3 => v = .int .i64 q
  | 4 => v = .pointer (some ⟨BB, 1, none⟩)
  | 5 => v = .slice av m cv
  | 6 => ∃ a c, v = .slice a m c ∧ IntsAt .i64 w a zs ∧ (∀ x, a = some x → BB < x.block)
  | 7 => ∃ a c, v = .agg #[.int .i64 q, .slice a m c] ∧ IntsAt .i64 w a zs ∧ (∀ x, a = some x → BB < x.block)
  | 8 => v = .pointer (some ⟨G, k * 2, none⟩)
  | _ => True
theorem F_cc_mono (BB G n k m : Nat) (q : Int) (av : Option Addr) (cv : Nat) (zs : List Int) : Facts (F_cc BB G n k m q av cv zs) := ⟨by
  intro j v w w' h hb
  unfold F_cc at h ⊢
  split at h
  all_goals first
    | exact h
    | (obtain ⟨a, c, e, hi, hx⟩ := h; exact ⟨a, c, e, hi.below hb, hx⟩)
    | trivial⟩
/-- a component in the making: its numbers lie in another block than the row -/
def CompNew (G : Nat) (w : World) (i : Nat) (y : CompV) : Prop := w.cell? ⟨G, i, none⟩ = some (.int .i64 y.kind) ∧ ∃ a c, w.cell? ⟨G, i + 1, none⟩ = some (.slice a y.vals.length c) ∧ IntsAt .i64 w a y.vals ∧ (∀ x, a = some x → G < x.block)
theorem ints_far {k : IntKind} {w : World} {a : Option Addr} {zs : List Int} (h : IntsAt k w a zs) {p : Addr} (hx : ∀ x, a = some x → x.block ≠ p.block) (v : Value) : IntsAt k (w.setCell p v) a zs := fun h0 => by
  obtain ⟨x, e, h1, h2⟩ := h h0
  refine ⟨x, e, by simpa using h1, fun i hi => ?_⟩
  rw [cell_set_ne (fun e2 => hx x e (by rw [e2, block_of_add]))]
  exact h2 i hi
theorem CompNew.below {G : Nat} {w w' : World} {i : Nat} {y : CompV} (h : CompNew G w i y) (hb : Below w.heap.size w w') : CompNew G w' i y := by
  obtain ⟨h1, a, c, h2, h3, h4⟩ := h
  exact ⟨cell_abides h1 hb, a, c, cell_abides h2 hb, h3.below hb, h4⟩
theorem CompNew.far {G : Nat} {w : World} {i : Nat} {y : CompV} (h : CompNew G w i y) (j : Nat) (v : Value) (n1 : j ≠ i) (n2 : j ≠ i + 1) : CompNew G (w.setCell ⟨G, j, none⟩ v) i y := by
  obtain ⟨h1, a, c, h2, h3, h4⟩ := h
  exact ⟨by rw [cell_set_ne (fun e => n1 (by injection e))]; exact h1, a, c, by rw [cell_set_ne (fun e => n2 (by injection e))]; exact h2, ints_far h3 (fun x e => by have := h4 x e; show x.block ≠ G; omega) v, h4⟩
theorem CompNew.at {G : Nat} {w : World} {i : Nat} {y : CompV} (h : CompNew G w i y) : CompAt w ⟨G, i, none⟩ y := by
  obtain ⟨h1, a, c, h2, h3, _⟩ := h
  exact ⟨h1, a, c, h2, h3⟩
/-- one element written -/
theorem CompNew.new {G : Nat} {w : World} {i : Nat} {y : CompV} {a : Option Addr} {c : Nat} {o1 o2 : Value} (h1 : w.cell? ⟨G, i, none⟩ = some o1) (h2 : w.cell? ⟨G, i + 1, none⟩ = some o2) (hi : IntsAt .i64 w a y.vals) (hx0 : ∀ x, a = some x → G < x.block) :
    CompNew G ((w.setCell ⟨G, i, none⟩ (.int .i64 y.kind)).setCell ⟨G, i + 1, none⟩ (.slice a y.vals.length c)) i y := by
  have hx : ∀ x, a = some x → x.block ≠ G := fun x e => by have := hx0 x e; omega
  have hne : (⟨G, i + 1, none⟩ : Addr) ≠ ⟨G, i, none⟩ := fun e => by injection e with _ e; omega
  refine ⟨?_, a, c, ?_, ints_far (ints_far hi hx _) hx _, hx0⟩
  · rw [cell_set_ne hne]; exact cell_set_eq h1
  · exact cell_set_eq (u := o2) (by rw [cell_set_ne hne.symm]; exact h2)
theorem CompNew.up {G : Nat} {w w2 : World} {i : Nat} {y : CompV} (h : CompNew G w i y) (hs : SameUp G w w2) : CompNew G w2 i y := by
  obtain ⟨h1, a, c, h2, h3, h4⟩ := h
  exact ⟨cell_up hs (Nat.le_refl _) h1, a, c, cell_up hs (Nat.le_refl _) h2, ints_up hs (fun x e => Nat.le_of_lt (h4 x e)) h3, h4⟩
def CopyPost (l : List CompV) (n : Nat) (W : World) (e : Ending) (w' : World) : Prop := ∃ a, e = .returned (.slice a n n) ∧ Up W.heap.size (fun w => SlAt 2 CompAt w a l) w' ∧ Below W.heap.size W w'
set_option maxHeartbeats 4000000 in
theorem copy_comps (l : List CompV) (a : Option Addr) (n cap : Nat) (hn : l.length = n) (h1 : n ≤ 1048576) (hv : ∀ y ∈ l, y.vals.length ≤ 1048576) (W : World) (hz : SlAt 2 CompAt W a l) :
    Calls Try.prog 66 #[.slice a n cap] W (CopyPost l n W) := by
  have HN := Lib.hid hn
  have HZ := Lib.hid hz
  have HV := Lib.hid hv
  clear hn hz hv
  go_enter Try.func66, Try.ntmps66
  go_wp2_with (at_make; go_must (refine wpList_make_blk rfl _ _ 25 rfl 95 (.agg #[.int .i64 0, .slice none 0 0]) 2 32 Try.underlying25 (by kernel_rfl) _ _ _ _ n rfl rfl rfl rfl ?b1 ?b2 ?_))
  case b1 => omega
  case b2 => unfold maxLen; omega
  intro w1 hblk hb1 hs1
  obtain ⟨G, hG⟩ : ∃ G, G = W.heap.size := ⟨_, rfl⟩
  rw [← hG] at hblk hs1 ⊢
  have HG := Lib.hid hG
  have HBLK := Lib.hid hblk
  have HB1 := Lib.hid hb1
  clear hG hblk hb1 hs1
  go_wp2_with fail
  go_loopg [4, 5, 11] n (fun gk v4 v5 vi wx => ∃ k : Nat, k ≤ n ∧ gk = n - k ∧ vi = .int .i64 k ∧ Blk wx G 95 (n * 2) ∧ (∀ j (h : j < l.length), j < k → CompNew G wx (j * 2) l[j]) ∧ Below W.heap.size W wx)
  case atStart => exact ⟨0, Nat.zero_le _, rfl, rfl, HBLK.out, fun j h h2 => absurd h2 (by omega), HB1.out⟩
  case round =>
    obtain ⟨k, hk, g2, rfl, hblk, hat, hb⟩ := hrel
    have G2 := Lib.hid g2
    have HB := Lib.hid hb
    have HBLK2 := Lib.hid hblk
    have HAT := Lib.hid hat
    have hgl := hblk.lt
    clear g2 hb hblk hat HBLK HB1
    by_cases hlt : k < n
    · obtain ⟨x, rfl, hx, hi⟩ := (HZ.out.below CompAt.abides HB.out) (by rw [HN.out]; omega)
      obtain ⟨c0, av, cv, c1, hv⟩ := hi k (by rw [HN.out]; exact hlt)
      obtain ⟨y, hy⟩ : ∃ y, y = l[k]'(by rw [HN.out]; exact hlt) := ⟨_, rfl⟩
      rw [← hy] at c0 c1 hv
      have hm : y.vals.length ≤ 1048576 := HV.out y (by rw [hy]; exact List.getElem_mem _)
      obtain ⟨m, hm2⟩ : ∃ m, m = y.vals.length := ⟨_, rfl⟩
      rw [← hm2] at c1 hm
      obtain ⟨q, hq⟩ : ∃ q, q = y.kind := ⟨_, rfl⟩
      rw [← hq] at c0
      have HY := Lib.hid hy
      have HM := Lib.hid hm2
      have HQ := Lib.hid hq
      have HI := Lib.hid hv
      clear hi hv hy hm2 hq
      go_wp2_with fail
      have B0 : (wr.alloc (.cells #[.int .i64 q, .slice av m cv] 95)).cell? ⟨wr.heap.size, 0, none⟩ = some (.int .i64 q) := by simp
      have B1 : (wr.alloc (.cells #[.int .i64 q, .slice av m cv] 95)).cell? ⟨wr.heap.size, 1, none⟩ = some (.slice av m cv) := by simp
      have hb0 := (Below.refl wr.heap.size wr).alloc (Nat.le_refl _) (.cells #[.int .i64 q, .slice av m cv] 95)
      have HC := Lib.hid (clone_at y.vals av m cv HM.out.symm (by omega))
      have HI2 := Lib.hid (HI.out.below hb0)
      refine wp_region_facts rfl 9 (by kernel_rfl) (F_cc wr.heap.size G n k m q av cv y.vals) (F_cc_mono wr.heap.size G n k m q av cv y.vals) ?_ ?_
      · refine ⟨?_, ?_, ?_, ?_, ?_, ?_, ?_, ?_, ?_, trivial⟩
        · intro vs w' F hb hd hF hl
          have e := (hF 3).trans (look_out _ 3 _ _ (by kernel_rfl))
          exact one_move _ rfl (by first | exact Or.inl rfl | exact Or.inr rfl) ⟨_, rfl, Below.refl _ _, e⟩
        · intro vs w' F hb hd hF hl
          have e := (hF 4).trans (look_out _ 4 _ _ (by kernel_rfl))
          exact one_move _ rfl (by first | exact Or.inl rfl | exact Or.inr rfl) ⟨_, rfl, Below.refl _ _, e⟩
        · intro vs w' F hb hd hF hl
          have e := (hF 5).trans (look_out _ 5 _ _ (by kernel_rfl))
          exact one_field _ _ _ rfl rfl _ _ e _ (fun w => by kernel_rfl) ⟨_, rfl, Below.refl _ _, rfl⟩
        · intro vs w' F hb hd hF hl
          have e := ((hF 18).trans (look_at _ 18 2 _ _ (by kernel_rfl) (by kernel_rfl) hl)).trans (dep_of (Fact := F_cc wr.heap.size G n k m q av cv y.vals) hd 2 (by kernel_rfl))
          exact one_load _ _ rfl rfl _ _ e (cell_abides B0 hb) (by kernel_rfl) ⟨_, rfl, Below.refl _ _, rfl⟩
        · intro vs w' F hb hd hF hl
          have e := (hF 5).trans (look_out _ 5 _ _ (by kernel_rfl))
          exact one_field _ _ _ rfl rfl _ _ e _ (fun w => by kernel_rfl) ⟨_, rfl, Below.refl _ _, rfl⟩
        · intro vs w' F hb hd hF hl
          have e := ((hF 20).trans (look_at _ 20 4 _ _ (by kernel_rfl) (by kernel_rfl) hl)).trans (dep_of (Fact := F_cc wr.heap.size G n k m q av cv y.vals) hd 4 (by kernel_rfl))
          exact one_load _ _ rfl rfl _ _ e (cell_abides B1 hb) (by kernel_rfl) ⟨_, rfl, Below.refl _ _, rfl⟩
        · intro vs w' F hb hd hF hl
          have e := (((hF 21).trans (look_at _ 21 5 _ _ (by kernel_rfl) (by kernel_rfl) hl)).trans (dep_of (Fact := F_cc wr.heap.size G n k m q av cv y.vals) hd 5 (by kernel_rfl)))
          refine one_call _ _ rfl rfl (enters_of Try.func62 (by kernel_rfl) rfl) #[.slice av m cv] (eval1 e) ?_
          refine (HC.out w' (HI2.out.below hb)).mono ?_
          rintro e2 w2 ⟨a2, c2, rfl, hi2, hx2, hb2⟩
          exact ⟨_, rfl, _, rfl, hb2, a2, c2, rfl, hi2, fun x hx => by have h1 := hx2 x hx; have h2 := hb.size; simp at h2; omega⟩
        · intro vs w' F hb hd hF hl
          obtain ⟨a2, c2, hv2, hi2, hx2⟩ := (dep_of (Fact := F_cc wr.heap.size G n k m q av cv y.vals) hd 6 (by kernel_rfl))
          have e1 := (((hF 19).trans (look_at _ 19 3 _ _ (by kernel_rfl) (by kernel_rfl) hl)).trans (dep_of (Fact := F_cc wr.heap.size G n k m q av cv y.vals) hd 3 (by kernel_rfl)))
          have e2 := ((hF 22).trans (look_at _ 22 6 _ _ (by kernel_rfl) (by kernel_rfl) hl)).trans hv2
          exact one_build _ _ rfl rfl #[(0, .int .i64 q), (1, .slice a2 m c2)] (parts2 e1 e2) (.agg #[.int .i64 q, .slice a2 m c2]) (fun w => by kernel_rfl) ⟨_, rfl, Below.refl _ _, a2, c2, rfl, hi2, hx2⟩
        · intro vs w' F hb hd hF hl
          have ex := (((hF 16).trans (look_at _ 16 0 _ _ (by kernel_rfl) (by kernel_rfl) hl)).trans (dep_of (Fact := F_cc wr.heap.size G n k m q av cv y.vals) hd 0 (by kernel_rfl)))
          have ey := (((hF 17).trans (look_at _ 17 1 _ _ (by kernel_rfl) (by kernel_rfl) hl)).trans (dep_of (Fact := F_cc wr.heap.size G n k m q av cv y.vals) hd 1 (by kernel_rfl)))
          exact one_index 25 _ _ rfl rfl (.slice (some ⟨G, 0, none⟩) n n) (.int .i64 k) (.pointer (some ⟨G, k * 2, none⟩)) ex ey (fun w => by clear hb hd hF hl ex ey; go_simp) ⟨_, rfl, Below.refl _ _, rfl⟩
      · intro vs W1 hl hb hI
        obtain ⟨a8, c8, i7, hi8, hx8⟩ := hI 7 (by omega)
        have i8 : vs.getD 8 undef = .pointer (some ⟨G, k * 2, none⟩) := hI 8 (by omega)
        obtain ⟨v0, v1, v2, v3, v4, v5, v6, v7, v8, v9, rfl⟩ := list10 hl
        replace i7 : v7 = .agg #[.int .i64 q, .slice a8 m c8] := i7
        replace i8 : v8 = .pointer (some ⟨G, k * 2, none⟩) := i8
        subst i7 i8
        have hblk1 := (HBLK2.out.below hb0).below hb
        obtain ⟨o1, ho1⟩ := hblk1.cell (k * 2) (by omega)
        obtain ⟨o2, ho2⟩ := hblk1.cell (k * 2 + 1) (by omega)
        have f1 := hblk1.frozen (k * 2)
        have f2 := hblk1.frozen (k * 2 + 1)
        have hbw : Below wr.heap.size wr W1 := hb0.trans (hb.mono (by simp))
        have hbn : Below W.heap.size W ((W1.setCell ⟨G, k * 2, none⟩ (.int .i64 q)).setCell ⟨G, k * 2 + 1, none⟩ (.slice a8 m c8)) := ((HB.out.trans (hbw.mono HB.out.size)).setCell (by rw [← HG.out]; exact Nat.le_refl _) _).setCell (by rw [← HG.out]; exact Nat.le_refl _) _
        have HBN := Lib.hid hbn
        have HBK := Lib.hid ((hblk1.set (k * 2) (.int .i64 q)).set (k * 2 + 1) (.slice a8 m c8))
        have hatn : ∀ j (h : j < l.length), j < k + 1 → CompNew G ((W1.setCell ⟨G, k * 2, none⟩ (.int .i64 q)).setCell ⟨G, k * 2 + 1, none⟩ (.slice a8 m c8)) (j * 2) l[j] := by
          intro j h hj
          by_cases hjk : j < k
          · exact (((HAT.out j h hjk).below hbw).far _ _ (by omega) (by omega)).far _ _ (by omega) (by omega)
          · obtain rfl : j = k := by omega
            rw [← HY.out, HQ.out, HM.out]
            exact CompNew.new ho1 ho2 hi8 (fun x hx => by have := hx8 x hx; omega)
        have HATN := Lib.hid hatn
        clear hI hl hb hbw hbn hblk1 hatn hi8 hx8 HC HI2 hb0 B0 B1
        simp only [fillAll, Act.put, List.setIfInBounds_toArray, List.set_cons_succ, List.set_cons_zero]
        go_wp2
        go_roundg (n - (k + 1))
        case measure => rw [G2.out]; omega
        case rel => exact ⟨k + 1, hlt, rfl, by go_num, HBK.out, HATN.out, HBN.out⟩
    · have hke : k = n := by omega
      have HK := Lib.hid hke
      clear hke
      go_wp2_with fail
      go_ret
      refine ⟨some ⟨G, 0, none⟩, rfl, fun w2 hs h0 => ⟨_, rfl, Nat.lt_of_lt_of_le hgl hs.1, fun i hi => ?_⟩, HB.out⟩
      have := HAT.out i hi (by rw [HK.out, ← HN.out]; exact hi)
      rw [add_zero_block]; exact (this.up (by rw [HG.out]; exact hs)).at
end Go.Proofs.Ytfckbkhnelgjbaa
end
/- slices.Clone of ints once more: no cell of the new row is a string. -/
section
namespace Go.Proofs.Ytfckbkhnelgjbaa
open Go.ChangeShapes Go.WideShapes Go.ChangeAt Go.RowKit Go.Mem
set_option linter.unusedVariables false
/-- no cell of block G is a string -/
def NoStr (w : World) (G : Nat) : Prop := ∀ i s, w.cell? ⟨G, i, none⟩ ≠ some (.string s)
theorem NoStr.below {w w' : World} {G : Nat} (h : NoStr w G) (hG : G < w.heap.size) (hb : Below w.heap.size w w') : NoStr w' G := fun i s => by
  rw [World.cell?_of_block (w := w) (hb.block G hG)]
  exact h i s
theorem nostr_row0 {w : World} {G : Nat} {cs : Array Value} {t : TypeId} {fr : Nat × Nat} (h : w.heap[G]? = some (.cells cs t fr)) (hs : ∀ (j : Nat) (s : ByteArray), cs[j]? ≠ some (Value.string s)) : NoStr w G := fun i s => by
  rw [cell_of_row _ _ _ _ _ _ h]; exact hs i s
/-- A slice of ints that the call owns; its row holds no string. -/
def OwnPostN (zs : List Int) (n : Nat) (w : World) (e : Ending) (w' : World) : Prop := ∃ v, e = .returned v ∧ w'.ownsRow w.heap.size 3 1 v n (vints .i64 zs) ∧ Below w.heap.size w w' ∧ ∀ g, v.ownBlock = some g → NoStr w' g
set_option maxHeartbeats 4000000 in
theorem clone_intsN (l : List Int) (a : Option Addr) (n cap : Nat) (hn : l.length = n) (h1 : n ≤ 17592186044416) (w : World) (hin : IntsAt .i64 w a l) :
    Calls Try.prog 62 #[.slice a n cap] w (OwnPostN l n w) := by
  rcases a with _ | x
  · have h0 : n = 0 := by
      rcases Nat.eq_zero_or_pos n with h | h
      · exact h
      · obtain ⟨x, h2, _⟩ := hin (by omega)
        cases h2
    subst h0
    have : l = [] := List.eq_nil_of_length_eq_zero hn
    subst this
    have hnil : w.ownsRow w.heap.size 3 1 (.slice none 0 0) 0 (vints .i64 []) := ⟨rfl, .inl ⟨rfl, rfl⟩⟩
    have HNIL := Lib.hid hnil
    clear hnil hin hn
    have hq := fun wx => Lib.run_eql_slice_nil (P := Try.prog) wx 34 3 none 0 cap 0 0 Try.underlying34
    simp only [Option.isNone] at hq
    go_enter Try.func62, Try.ntmps62
    go_wp2
    go_ret
    exact ⟨_, rfl, HNIL.out, Below.refl _ _, fun g h => by cases h⟩
  · have HN := Lib.hid hn
    obtain ⟨i0, hi0, hz0, hzs, hzb⟩ := info_parts (show (Try.prog.info? 3).map (fun i => (i.zero, i.size, i.bytes)) = some (some (.int .i64 0), 1, 8) by kernel_rfl)
    have hq := fun wx => Lib.run_eql_slice_nil (P := Try.prog) wx 34 3 (some x) n cap 0 0 Try.underlying34
    simp only [Option.isNone] at hq
    obtain ⟨W1, hW1⟩ : ∃ W1, W1 = w.alloc (.cells #[] 3) := ⟨_, rfl⟩
    have hba : Below w.heap.size w W1 := by rw [hW1]; exact (Below.refl w.heap.size w).alloc (Nat.le_refl _) (.cells #[] 3)
    have hs1 : W1.heap.size = w.heap.size + 1 := by rw [hW1, World.size_alloc]
    have hr1 : W1.heap[w.heap.size]? = some (.cells #[] 3 (0, 0)) := by rw [hW1]; exact heap_alloc_new w _
    have hin1 := hin.below hba
    by_cases h0 : n = 0
    · subst h0
      have hl0 : l = [] := List.eq_nil_of_length_eq_zero hn
      have hown : W1.ownsRow w.heap.size 3 1 (.slice (some ⟨w.heap.size, 0, none⟩) 0 0) 0 (vints .i64 l) := by
        rw [hl0]
        exact ⟨rfl, Or.inr ⟨w.heap.size, 0, #[], rfl, Nat.le_refl _, hr1, Nat.le_refl _, by unfold maxLen; omega, rfl, rfl⟩⟩
      have hno : NoStr W1 w.heap.size := nostr_row0 hr1 (fun j s => by simp)
      have hlo : ∀ wx : World, (loadCells x 0).run Try.prog wx = .ok #[] wx := fun wx => by simpa using run_loadCells_list (P := Try.prog) wx x [] (by simp)
      have hrun : ∀ ty, (Builtin.append_ #[34, 34] ty #[.slice (some ⟨w.heap.size, 0, none⟩) 0 0, .slice (some x) 0 cap]).run Try.prog W1 = .ok (.slice (some ⟨w.heap.size, 0, none⟩) 0 0) W1 := fun ty => by
        simp [Builtin.append_, run_underlying Try.underlying34, sizeOf, typeInfo, hi0, Builtin.lenOf, Builtin.firstCells, storeCells, hlo]
      have HR := Lib.hid hrun
      have HO := Lib.hid hown
      have HNO := Lib.hid hno
      have HBA := Lib.hid hba
      clear hown hno hlo hin1 hr1 hs1 hba hi0 hz0 hzs hzb hl0 hin hn HN
      subst hW1
      go_enter Try.func62, Try.ntmps62
      go_wp2_with (at_builtin; go_must (refine Lib.wpList_append_run _ rfl _ _ _ _ rfl _ _ rfl rfl _ _ (HR.out _) ?_))
      go_ret
      exact ⟨_, rfl, HO.out, HBA.out, fun g hg => by injection hg with hg; have hg2 : w.heap.size = g := hg; rw [← hg2]; exact HNO.out⟩
    · obtain ⟨_, ex, hxb, hxc⟩ := hin1 (by omega)
      injection ex with ex
      subst ex
      have hsrc : Src Try.prog i0.size 34 (.slice (some x) n cap) n (vints .i64 l) W1 := by
        rw [hzs]
        refine Src.ofSlice W1 Try.underlying34 x n cap (vints .i64 l) (by rw [vints_length, hn, Nat.mul_one]) (fun j u hj => ?_) (vints_one .i64 l)
        have hjl : j < l.length := by
          have := (List.getElem?_eq_some_iff.1 hj).1
          rwa [vints_length] at this
        rw [hxc j hjl]
        rw [vints_get .i64 l j hjl] at hj
        exact hj
      have hold : (Builtin.firstCells i0.size 0 (.slice (some ⟨w.heap.size, 0, none⟩) 0 0)).run Try.prog W1.drew = .ok ([] : List Value).toArray W1.drew := by
        exact run_firstCells_some W1.drew i0.size 0 ⟨w.heap.size, 0, none⟩ 0 0 [] (by simp) (fun j v hj => by simp at hj)
      have hrun := fun ty => run_append_grow_src W1 34 34 ty 3 i0 _ Try.underlying34 hi0 hz0 (some ⟨w.heap.size, 0, none⟩) 0 0 [] hold _ n (vints .i64 l) hsrc (by omega) (by omega) (by rw [hzb]; exact growslice_fits (by omega) (by omega))
      obtain ⟨C, hC⟩ : ∃ C, C = grownCap W1 (0 + n) 0 3 := ⟨_, rfl⟩
      obtain ⟨ROW, hROW⟩ : ∃ ROW : Array Value, ROW = (([] : List Value) ++ vints .i64 l).toArray ++ Builtin.zeroCells (Value.int .i64 0).cells (C - (0 + n)) := ⟨_, rfl⟩
      rw [← hC, ← hROW] at hrun
      have hCn : 0 + n ≤ C := by rw [hC]; exact grownCap_ge W1 _ _ _
      have hCm : C ≤ maxLen := by rw [hC]; exact grownCap_le_maxLen W1 (0 + n) 0 3 (by unfold maxLen; omega)
      obtain ⟨W2, hW2⟩ : ∃ W2, W2 = W1.drew.alloc (.cells ROW 3) := ⟨_, rfl⟩
      have hr2 : W2.heap[W1.heap.size]? = some (.cells ROW 3 (0, 0)) := by rw [hW2]; exact heap_alloc_new W1.drew _
      have hb2 : Below w.heap.size w W2 := by rw [hW2]; exact hba.drew.alloc (by show w.heap.size ≤ W1.heap.size; omega) _
      have hRs : ROW.size = C * 1 := by
        rw [hROW]
        simp [Builtin.zeroCells, Value.cells, vints_length, hn]
        omega
      have hown : W2.ownsRow w.heap.size 3 1 (.slice (some ⟨W1.heap.size, 0, none⟩) n C) n (vints .i64 l) := by
        refine ⟨by rw [vints_length, hn, Nat.mul_one], Or.inr ⟨W1.heap.size, C, ROW, rfl, by omega, hr2, by omega, hCm, hRs, ?_⟩⟩
        rw [hROW]
        simp only [List.nil_append, Array.toList_append]
        rw [List.take_append_of_le_length (by rw [vints_length]; omega), List.take_of_length_le (by rw [vints_length]; omega)]
      have hno : NoStr W2 W1.heap.size := nostr_row0 hr2 (fun j s hj => by
        have hm := Array.mem_of_getElem? hj
        rw [hROW] at hm
        rw [Array.mem_append] at hm
        rcases hm with hm | hm
        · simp [vints] at hm
        · simp [Builtin.zeroCells, Value.cells] at hm
          obtain ⟨a, _, ha⟩ := hm
          rw [Nat.mod_one] at ha
          simp at ha)
      rw [Nat.zero_add, ← hW2, hs1] at hrun
      rw [hs1] at hown hno
      have HR := Lib.hid hrun
      have HO := Lib.hid hown
      have HNO := Lib.hid hno
      have HB2 := Lib.hid hb2
      clear hown hno hin1 hr1 hs1 hba hi0 hz0 hzs hzb hin hn HN hxc hxb hsrc hold hrun hROW hC hr2 hb2 hRs hCn hCm hW2
      subst hW1
      go_enter Try.func62, Try.ntmps62
      go_wp2_with (at_builtin; go_must (refine Lib.wpList_append_run _ rfl _ _ _ _ rfl _ _ rfl rfl _ _ (HR.out _) ?_))
      go_ret
      exact ⟨_, rfl, HO.out, HB2.out, fun g hg => by injection hg with hg; have hg2 : _ = g := hg; rw [← hg2]; exact HNO.out⟩
theorem OwnPostN.own {zs : List Int} {n : Nat} {w w' : World} {e : Ending} (h : OwnPostN zs n w e w') : OwnPost zs n w e w' := by
  obtain ⟨v, h1, h2, h3, _⟩ := h
  exact ⟨v, h1, h2, h3⟩
end Go.Proofs.Ytfckbkhnelgjbaa
end
/- A list of fields as the cells of a row. -/
section
namespace Go.Proofs.Ytfckbkhnelgjbaa
open Go.RowKit Go.ChangeShapes Go.WideShapes Go.Deep Go.Mem Go.Nm
set_option linter.unusedVariables false
def fval (l : List FieldV) (j : Nat) : Value := if j % 3 = 0 then .string (l.getD (j / 3) default).name else if j % 3 = 1 then .int .i64 (l.getD (j / 3) default).bits else .int .i64 (l.getD (j / 3) default).low
def fvals (l : List FieldV) : List Value := (List.range (l.length * 3)).map (fval l)
theorem fvals_len (l : List FieldV) : (fvals l).length = l.length * 3 := by unfold fvals; simp
theorem fvals_get (l : List FieldV) (j : Nat) (u : Value) : (fvals l)[j]? = some u ↔ j < l.length * 3 ∧ u = fval l j := by
  unfold fvals
  rw [List.getElem?_map]
  by_cases h : j < l.length * 3
  · rw [List.getElem?_range h]; simp [h, eq_comm]
  · rw [List.getElem?_eq_none (by simpa using h)]; simp [h]
theorem fvals_one (l : List FieldV) : ∀ u ∈ fvals l, u.oneCell' = true := by
  intro u hu
  unfold fvals at hu
  obtain ⟨j, _, rfl⟩ := List.mem_map.1 hu
  unfold fval
  split
  · rfl
  · split <;> rfl
theorem fval_parts (l : List FieldV) (q : Nat) (h : q < l.length) : fval l (q * 3) = .string l[q].name ∧ fval l (q * 3 + 1) = .int .i64 l[q].bits ∧ fval l (q * 3 + 2) = .int .i64 l[q].low := by
  have hd : l.getD q default = l[q] := by rw [List.getD_eq_getElem?_getD, List.getElem?_eq_getElem h]; rfl
  unfold fval
  refine ⟨?_, ?_, ?_⟩
  · rw [if_pos (by omega), show q * 3 / 3 = q by omega, hd]
  · rw [if_neg (by omega), if_pos (by omega), show (q * 3 + 1) / 3 = q by omega, hd]
  · rw [if_neg (by omega), if_neg (by omega), show (q * 3 + 2) / 3 = q by omega, hd]
theorem cells_flds {w : World} {a : Option Addr} {l : List FieldV} (h : SlAt 3 FieldAt w a l) : CellsAt w a (fvals l) := fun h0 => by
  rw [fvals_len] at h0
  obtain ⟨x, e, hx, hi⟩ := h (by omega)
  refine ⟨x, e, hx, fun j u hu => ?_⟩
  obtain ⟨hj, rfl⟩ := (fvals_get l j u).1 hu
  have hq : j / 3 < l.length := by omega
  obtain ⟨k0, k1, k2, _⟩ := hi (j / 3) hq
  obtain ⟨p0, p1, p2⟩ := fval_parts l (j / 3) hq
  rcases (show j = j / 3 * 3 ∨ j = j / 3 * 3 + 1 ∨ j = j / 3 * 3 + 2 by omega) with e | e | e
  · rw [show fval l j = fval l (j / 3 * 3) by rw [← e], p0, show x.add j = x.add (j / 3 * 3) by rw [← e]]; exact k0
  · rw [show fval l j = fval l (j / 3 * 3 + 1) by rw [← e], p1, show x.add j = x.add (j / 3 * 3 + 1) by rw [← e], add_nextN _ _ 1 (by decide)]; exact k1
  · rw [show fval l j = fval l (j / 3 * 3 + 2) by rw [← e], p2, show x.add j = x.add (j / 3 * 3 + 2) by rw [← e], add_nextN _ _ 2 (by decide)]; exact k2
theorem flds_own {w : World} {base e n : Nat} {v : Value} {l : List FieldV} (hn : l.length = n) (h : w.ownsRow base e 3 v n (fvals l)) (hs : ∀ y ∈ l, y.name.size ≤ 9223372036854775807) :
    ∃ a c, v = .slice a n c ∧ n ≤ c ∧ c ≤ 9223372036854775807 ∧ SlAt 3 FieldAt w a l ∧ (∀ x, a = some x → base ≤ x.block) := by
  subst hn
  obtain ⟨_, ⟨hv, h0⟩ | ⟨g, cap, cur, hv, hb, hg, hc1, hc2, hc3, hc4⟩⟩ := h
  · exact ⟨none, 0, by rw [hv, h0], by omega, by omega, fun h => by omega, fun x hx => by cases hx⟩
  · refine ⟨some ⟨g, 0, none⟩, cap, hv, hc1, by unfold maxLen at hc2; omega, fun _ => ⟨_, rfl, lt_of_heap hg, fun q hq => ?_⟩, fun x hx => by injection hx with hx; rw [← hx]; exact hb⟩
    have cell : ∀ j, j < l.length * 3 → w.cell? ⟨g, j, none⟩ = some (fval l j) := by
      intro j hj
      rw [cell_of_row _ _ _ _ _ _ hg]
      have := (fvals_get l j (fval l j)).2 ⟨hj, rfl⟩
      rw [← hc4, List.getElem?_take, if_pos hj] at this
      simpa using this
    obtain ⟨p0, p1, p2⟩ := fval_parts l q hq
    rw [add_zero_block]
    exact ⟨by rw [cell _ (by omega), p0], by show w.cell? ⟨g, q * 3 + 1, none⟩ = _; rw [cell _ (by omega), p1], by show w.cell? ⟨g, q * 3 + 2, none⟩ = _; rw [cell _ (by omega), p2], hs _ (List.getElem_mem _)⟩
theorem flds_names {w : World} {a : Option Addr} {l : List FieldV} (h : SlAt 3 FieldAt w a l) : ∀ y ∈ l, y.name.size ≤ 9223372036854775807 := by
  intro y hy
  obtain ⟨j, hj, rfl⟩ := List.mem_iff_getElem.1 hy
  obtain ⟨x, e, hx, hi⟩ := h (by omega)
  exact (hi j hj).2.2.2
end Go.Proofs.Ytfckbkhnelgjbaa
end
/- kind.Copy. -/
section
namespace Go.Proofs.Ytfckbkhnelgjbaa
open Go.ChangeShapes Go.WideShapes Go.ChangeAt Go.RowKit Go.Nm Go.Mem
set_option linter.unusedVariables false
theorem inf_kind3 : (Try.prog.info? 102).map (fun i => (i.zero, i.size, i.bytes)) = some (some (.agg #[.string ByteArray.empty, .slice none 0 0]), 2, 40) := by kernel_rfl
theorem inf_fld3 : (Try.prog.info? 99).map (fun i => (i.zero, i.size, i.bytes)) = some (some (.agg #[.string ByteArray.empty, .int .i64 0, .int .i64 0]), 3, 32) := by kernel_rfl
def F_kc (BB G n k m : Nat) (q : ByteArray) (av : Option Addr) (cv : Nat) (y : KindV) (j : Nat) (v : Value) (w : World) : Prop :=
  match j with
  | 0 => v = .slice (some ⟨G, 0, none⟩) n n
  | 1 => v = .int .i64 k
  | 2 => v = .pointer (some ⟨BB, 0, none⟩)
  | 3 => v = .string q
  | 4 => v = .pointer (some ⟨BB, 1, none⟩)
  | 5 => v = .slice av m cv
  | 6 => ∃ a c, v = .slice a m c ∧ m ≤ c ∧ c ≤ 9223372036854775807 ∧ SlAt 3 FieldAt w a y.fields ∧ (∀ x, a = some x → BB < x.block)
  | 7 => ∃ a c, v = .agg #[.string q, .slice a m c] ∧ m ≤ c ∧ c ≤ 9223372036854775807 ∧ SlAt 3 FieldAt w a y.fields ∧ (∀ x, a = some x → BB < x.block)
  | 8 => v = .pointer (some ⟨G, k * 2, none⟩)
  | _ => True
theorem F_kc_mono (BB G n k m : Nat) (q : ByteArray) (av : Option Addr) (cv : Nat) (y : KindV) : Facts (F_kc BB G n k m q av cv y) := ⟨by
  intro j v w w' h hb
  unfold F_kc at h ⊢
  split at h
  all_goals first
    | exact h
    | (obtain ⟨a, c, e, h1, h2, hi, hx⟩ := h; exact ⟨a, c, e, h1, h2, hi.below FieldAt.abides hb, hx⟩)
    | trivial⟩
/-- a kind in the making: its fields lie in another block than the row -/
def KindNew (G : Nat) (w : World) (i : Nat) (y : KindV) : Prop := w.cell? ⟨G, i, none⟩ = some (.string y.name) ∧ y.name.size ≤ 9223372036854775807 ∧ ∃ a c, w.cell? ⟨G, i + 1, none⟩ = some (.slice a y.fields.length c) ∧ y.fields.length ≤ c ∧ c ≤ 9223372036854775807 ∧ SlAt 3 FieldAt w a y.fields ∧ (∀ x, a = some x → G < x.block)
theorem flds_far {w : World} {a : Option Addr} {l : List FieldV} (h : SlAt 3 FieldAt w a l) {p : Addr} (hx : ∀ x, a = some x → x.block ≠ p.block) (v : Value) : SlAt 3 FieldAt (w.setCell p v) a l := fun h0 => by
  obtain ⟨x, e, h1, h2⟩ := h h0
  refine ⟨x, e, by simpa using h1, fun i hi => ?_⟩
  obtain ⟨k0, k1, k2, k3⟩ := h2 i hi
  have hb := block_of_add x (i * 3)
  refine ⟨?_, ?_, ?_, k3⟩
  · rw [cell_set_ne (fun e2 => hx x e (by rw [e2, hb]))]; exact k0
  · rw [cell_set_ne (fun e2 => hx x e (by rw [e2]; exact hb.symm))]; exact k1
  · rw [cell_set_ne (fun e2 => hx x e (by rw [e2]; exact hb.symm))]; exact k2
theorem KindNew.below {G : Nat} {w w' : World} {i : Nat} {y : KindV} (h : KindNew G w i y) (hb : Below w.heap.size w w') : KindNew G w' i y := by
  obtain ⟨h1, hs, a, c, h2, c1, c2, h3, h4⟩ := h
  exact ⟨cell_abides h1 hb, hs, a, c, cell_abides h2 hb, c1, c2, h3.below FieldAt.abides hb, h4⟩
theorem KindNew.far {G : Nat} {w : World} {i : Nat} {y : KindV} (h : KindNew G w i y) (j : Nat) (v : Value) (n1 : j ≠ i) (n2 : j ≠ i + 1) : KindNew G (w.setCell ⟨G, j, none⟩ v) i y := by
  obtain ⟨h1, hs, a, c, h2, c1, c2, h3, h4⟩ := h
  exact ⟨by rw [cell_set_ne (fun e => n1 (by injection e))]; exact h1, hs, a, c, by rw [cell_set_ne (fun e => n2 (by injection e))]; exact h2, c1, c2, flds_far h3 (fun x e => by have := h4 x e; show x.block ≠ G; omega) v, h4⟩
theorem KindNew.at {G : Nat} {w : World} {i : Nat} {y : KindV} (h : KindNew G w i y) : KindAt w ⟨G, i, none⟩ y := by
  obtain ⟨h1, hs, a, c, h2, c1, c2, h3, _⟩ := h
  exact ⟨h1, hs, a, c, h2, c1, c2, h3⟩
theorem KindNew.new {G : Nat} {w : World} {i : Nat} {y : KindV} {a : Option Addr} {c : Nat} {o1 o2 : Value} (hs : y.name.size ≤ 9223372036854775807) (h1 : w.cell? ⟨G, i, none⟩ = some o1) (h2 : w.cell? ⟨G, i + 1, none⟩ = some o2) (c1 : y.fields.length ≤ c) (c2 : c ≤ 9223372036854775807) (hi : SlAt 3 FieldAt w a y.fields) (hx0 : ∀ x, a = some x → G < x.block) :
    KindNew G ((w.setCell ⟨G, i, none⟩ (.string y.name)).setCell ⟨G, i + 1, none⟩ (.slice a y.fields.length c)) i y := by
  have hx : ∀ x, a = some x → x.block ≠ G := fun x e => by have := hx0 x e; omega
  have hne : (⟨G, i + 1, none⟩ : Addr) ≠ ⟨G, i, none⟩ := fun e => by injection e with _ e; omega
  refine ⟨?_, hs, a, c, ?_, c1, c2, flds_far (flds_far hi hx _) hx _, hx0⟩
  · rw [cell_set_ne hne]; exact cell_set_eq h1
  · exact cell_set_eq (u := o2) (by rw [cell_set_ne hne.symm]; exact h2)
set_option maxHeartbeats 8000000 in
theorem kind_Copy (l : List KindV) (a : Option Addr) (n cap : Nat) (hn : l.length = n) (h1 : n ≤ 3518437208780) (hv : ∀ y ∈ l, y.fields.length ≤ 4398046510976) (W : World) (hz : SlAt 2 KindAt W a l) :
    Calls Try.prog 65 #[.slice a n cap] W fun e w' => (∃ a, e = .returned (.slice a n n) ∧ SlAt 2 KindAt w' a l) ∧ Below W.heap.size W w' := by
  have HN := Lib.hid hn
  have HZ := Lib.hid hz
  have HV := Lib.hid hv
  clear hn hz hv
  go_enter Try.func65, Try.ntmps65
  go_wp2_with (at_make; (refine wpList_make_blk (z := .agg #[.string ByteArray.empty, .slice none 0 0]) (sz := 2) (bytes := 40) (e := 102) rfl _ _ 33 rfl (h2 := inf_kind3) (h1 := Try.underlying33) .i64 .i64 (n : Int) (n : Int) n rfl rfl rfl rfl ?b1 ?b2 ?_; (case b1 => omega); (case b2 => (unfold maxLen; omega))))
  intro w1 hblk hb1 hs1
  obtain ⟨G, hG⟩ : ∃ G, G = W.heap.size := ⟨_, rfl⟩
  rw [← hG] at hblk hs1 ⊢
  have HG := Lib.hid hG
  have HBLK := Lib.hid hblk
  have HB1 := Lib.hid hb1
  clear hG hblk hb1 hs1
  go_wp2_with fail
  go_loopg [4, 5, 11] n (fun gk v4 v5 vi wx => ∃ k : Nat, k ≤ n ∧ gk = n - k ∧ vi = .int .i64 k ∧ Blk wx G 102 (n * 2) ∧ (∀ j (h : j < l.length), j < k → KindNew G wx (j * 2) l[j]) ∧ Below W.heap.size W wx)
  case atStart => exact ⟨0, Nat.zero_le _, rfl, rfl, HBLK.out, fun j h h2 => absurd h2 (by omega), HB1.out⟩
  case round =>
    obtain ⟨k, hk, g2, rfl, hblk, hat, hb⟩ := hrel
    have G2 := Lib.hid g2
    have HB := Lib.hid hb
    have HBLK2 := Lib.hid hblk
    have HAT := Lib.hid hat
    have hgl := hblk.lt
    clear g2 hb hblk hat HBLK HB1
    by_cases hlt : k < n
    · obtain ⟨x, rfl, hx, hi⟩ := (HZ.out.below KindAt.abides HB.out) (by rw [HN.out]; omega)
      obtain ⟨c0, hnm, av, cv, c1, hc1, hc2, hv⟩ := hi k (by rw [HN.out]; exact hlt)
      obtain ⟨y, hy⟩ : ∃ y, y = l[k]'(by rw [HN.out]; exact hlt) := ⟨_, rfl⟩
      rw [← hy] at c0 c1 hv hnm hc1
      have hm : y.fields.length ≤ 4398046510976 := HV.out y (by rw [hy]; exact List.getElem_mem _)
      obtain ⟨m, hm2⟩ : ∃ m, m = y.fields.length := ⟨_, rfl⟩
      rw [← hm2] at c1 hm hc1
      obtain ⟨q, hq⟩ : ∃ q, q = y.name := ⟨_, rfl⟩
      rw [← hq] at c0
      have HY := Lib.hid hy
      have HM := Lib.hid hm2
      have HQ := Lib.hid hq
      have HNM := Lib.hid hnm
      clear hi hy hm2 hq hnm
      have hb0 := (Below.refl wr.heap.size wr).alloc (Nat.le_refl _) (.cells #[.string q, .slice av m cv] 102)
      have HI2 := Lib.hid (hv.below FieldAt.abides hb0)
      clear hv
      go_wp2_with fail
      have B0 : (wr.alloc (.cells #[.string q, .slice av m cv] 102)).cell? ⟨wr.heap.size, 0, none⟩ = some (.string q) := by simp
      have B1 : (wr.alloc (.cells #[.string q, .slice av m cv] 102)).cell? ⟨wr.heap.size, 1, none⟩ = some (.slice av m cv) := by simp
      refine wp_region_facts rfl 9 (by kernel_rfl) (F_kc wr.heap.size G n k m q av cv y) (F_kc_mono wr.heap.size G n k m q av cv y) ?_ ?_
      · refine ⟨?_, ?_, ?_, ?_, ?_, ?_, ?_, ?_, ?_, trivial⟩
        · intro vs w' F hb hd hF hl
          have e := (hF 3).trans (look_out _ 3 _ _ (by kernel_rfl))
          exact one_move _ rfl (by first | exact Or.inl rfl | exact Or.inr rfl) ⟨_, rfl, Below.refl _ _, e⟩
        · intro vs w' F hb hd hF hl
          have e := (hF 4).trans (look_out _ 4 _ _ (by kernel_rfl))
          exact one_move _ rfl (by first | exact Or.inl rfl | exact Or.inr rfl) ⟨_, rfl, Below.refl _ _, e⟩
        · intro vs w' F hb hd hF hl
          have e := (hF 5).trans (look_out _ 5 _ _ (by kernel_rfl))
          exact one_field _ _ _ rfl rfl _ _ e _ (fun w => by kernel_rfl) ⟨_, rfl, Below.refl _ _, rfl⟩
        · intro vs w' F hb hd hF hl
          have e := ((hF 18).trans (look_at _ 18 2 _ _ (by kernel_rfl) (by kernel_rfl) hl)).trans (dep_of (Fact := F_kc wr.heap.size G n k m q av cv y) hd 2 (by kernel_rfl))
          exact one_load _ _ rfl rfl _ _ e (cell_abides B0 hb) (by kernel_rfl) ⟨_, rfl, Below.refl _ _, rfl⟩
        · intro vs w' F hb hd hF hl
          have e := (hF 5).trans (look_out _ 5 _ _ (by kernel_rfl))
          exact one_field _ _ _ rfl rfl _ _ e _ (fun w => by kernel_rfl) ⟨_, rfl, Below.refl _ _, rfl⟩
        · intro vs w' F hb hd hF hl
          have e := ((hF 20).trans (look_at _ 20 4 _ _ (by kernel_rfl) (by kernel_rfl) hl)).trans (dep_of (Fact := F_kc wr.heap.size G n k m q av cv y) hd 4 (by kernel_rfl))
          exact one_load _ _ rfl rfl _ _ e (cell_abides B1 hb) (by kernel_rfl) ⟨_, rfl, Below.refl _ _, rfl⟩
        · intro vs w' F hb hd hF hl
          have e := (((hF 21).trans (look_at _ 21 5 _ _ (by kernel_rfl) (by kernel_rfl) hl)).trans (dep_of (Fact := F_kc wr.heap.size G n k m q av cv y) hd 5 (by kernel_rfl)))
          refine wpList_append_cells rfl _ _ 100 rfl w'.heap.size 99 (.agg #[.string ByteArray.empty, .int .i64 0, .int .i64 0]) 3 32 Try.underlying100 inf_fld3 rfl (by decide) (.slice none 0 0) 0 [] rfl (World.ownsRow_nil _ _ _ _) av m cv (fvals y.fields) e (by rw [fvals_len, HM.out]) (cells_flds (HI2.out.below FieldAt.abides hb)) (fvals_one _) (by unfold maxLen; omega) (by omega) (Nat.le_refl _) ?_
          intro v2 w2 hown hg hor
          have hsz := hb.size
          simp at hsz
          rw [List.nil_append, Nat.zero_add] at hown
          obtain ⟨a2, c2, rfl, hc1, hc2, hs2, hx2⟩ := flds_own HM.out.symm hown (flds_names HI2.out)
          exact ⟨_, rfl, (Below.refl _ _).grown hg (Nat.le_refl _) (fun g h => by cases h), a2, c2, rfl, hc1, hc2, hs2, fun x hx => by have := hx2 x hx; omega⟩
        · intro vs w' F hb hd hF hl
          obtain ⟨a2, c2, hv2, hr2⟩ := (dep_of (Fact := F_kc wr.heap.size G n k m q av cv y) hd 6 (by kernel_rfl))
          have e1 := (((hF 19).trans (look_at _ 19 3 _ _ (by kernel_rfl) (by kernel_rfl) hl)).trans (dep_of (Fact := F_kc wr.heap.size G n k m q av cv y) hd 3 (by kernel_rfl)))
          have e2 := ((hF 22).trans (look_at _ 22 6 _ _ (by kernel_rfl) (by kernel_rfl) hl)).trans hv2
          exact one_build _ _ rfl rfl #[(0, .string q), (1, .slice a2 m c2)] (parts2 e1 e2) (.agg #[.string q, .slice a2 m c2]) (fun w => by kernel_rfl) ⟨_, rfl, Below.refl _ _, a2, c2, rfl, hr2⟩
        · intro vs w' F hb hd hF hl
          have ex := (((hF 16).trans (look_at _ 16 0 _ _ (by kernel_rfl) (by kernel_rfl) hl)).trans (dep_of (Fact := F_kc wr.heap.size G n k m q av cv y) hd 0 (by kernel_rfl)))
          have ey := (((hF 17).trans (look_at _ 17 1 _ _ (by kernel_rfl) (by kernel_rfl) hl)).trans (dep_of (Fact := F_kc wr.heap.size G n k m q av cv y) hd 1 (by kernel_rfl)))
          exact one_index 33 _ _ rfl rfl (.slice (some ⟨G, 0, none⟩) n n) (.int .i64 k) (.pointer (some ⟨G, k * 2, none⟩)) ex ey (fun w => by clear hb hd hF hl ex ey; go_simp) ⟨_, rfl, Below.refl _ _, rfl⟩
      · intro vs W1 hl hb hI
        obtain ⟨a8, c8, i7, n8, m8, hi8, hx8⟩ := hI 7 (by omega)
        have i8 : vs.getD 8 undef = .pointer (some ⟨G, k * 2, none⟩) := hI 8 (by omega)
        obtain ⟨v0, v1, v2, v3, v4, v5, v6, v7, v8, v9, rfl⟩ := list10 hl
        replace i7 : v7 = .agg #[.string q, .slice a8 m c8] := i7
        replace i8 : v8 = .pointer (some ⟨G, k * 2, none⟩) := i8
        subst i7 i8
        have hblk1 := (HBLK2.out.below hb0).below hb
        obtain ⟨o1, ho1⟩ := hblk1.cell (k * 2) (by omega)
        obtain ⟨o2, ho2⟩ := hblk1.cell (k * 2 + 1) (by omega)
        have f1 := hblk1.frozen (k * 2)
        have f2 := hblk1.frozen (k * 2 + 1)
        have hbw : Below wr.heap.size wr W1 := hb0.trans (hb.mono (by simp))
        have hbn : Below W.heap.size W ((W1.setCell ⟨G, k * 2, none⟩ (.string q)).setCell ⟨G, k * 2 + 1, none⟩ (.slice a8 m c8)) := ((HB.out.trans (hbw.mono HB.out.size)).setCell (by rw [← HG.out]; exact Nat.le_refl _) _).setCell (by rw [← HG.out]; exact Nat.le_refl _) _
        have HBN := Lib.hid hbn
        have HBK := Lib.hid ((hblk1.set (k * 2) (.string q)).set (k * 2 + 1) (.slice a8 m c8))
        have hatn : ∀ j (h : j < l.length), j < k + 1 → KindNew G ((W1.setCell ⟨G, k * 2, none⟩ (.string q)).setCell ⟨G, k * 2 + 1, none⟩ (.slice a8 m c8)) (j * 2) l[j] := by
          intro j h hj
          by_cases hjk : j < k
          · exact (((HAT.out j h hjk).below hbw).far _ _ (by omega) (by omega)).far _ _ (by omega) (by omega)
          · obtain rfl : j = k := by omega
            rw [← HY.out, HQ.out, HM.out]
            exact KindNew.new HNM.out ho1 ho2 (by rw [← HM.out]; exact n8) m8 hi8 (fun x hx => by have := hx8 x hx; omega)
        have HATN := Lib.hid hatn
        clear hI hl hb hbw hbn hblk1 hatn hi8 hx8 n8 m8 HI2 hb0 B0 B1
        simp only [fillAll, Act.put, List.setIfInBounds_toArray, List.set_cons_succ, List.set_cons_zero]
        go_wp2
        go_roundg (n - (k + 1))
        case measure => rw [G2.out]; omega
        case rel => exact ⟨k + 1, hlt, rfl, by go_num, HBK.out, HATN.out, HBN.out⟩
    · have hke : k = n := by omega
      have HK := Lib.hid hke
      clear hke
      go_wp2_with fail
      go_ret
      refine ⟨⟨some ⟨G, 0, none⟩, rfl, fun h0 => ⟨_, rfl, hgl, fun i hi => ?_⟩⟩, HB.out⟩
      have := HAT.out i hi (by rw [HK.out, ← HN.out]; exact hi)
      rw [add_zero_block]; exact this.at
end Go.Proofs.Ytfckbkhnelgjbaa
end
