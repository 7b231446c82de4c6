/- world.CopyComps. -/
import Derived.Test.YtlahmcbaiebapaaApiComp
import Derived.Test.YtlahmcbaiebapaaCloneI
import Derived.Test.YtlahmcbaiebapaaMem3
import Derived.Deep.LoopGhost
import Derived.Test.YtlahmcbaiebapaaRegMore
import Derived.Shelf.Abstract
namespace Go.Proofs.Ytlahmcbaiebapaa
open Go.ChangeShapes Go.WideShapes Go.ChangeAt Go.RowKit Go.Mem
set_option linter.unusedVariables false
def F_cc (BB G n k m : Nat) (q : Int) (av : Option Addr) (cv : Nat) (zs : List Int) (j : Nat) (v : Value) (w : World) : Prop :=
  match j with
  | 0 => v = .slice (some ⟨G, 0, none⟩) n n
  | 1 => v = .int .i64 k
  | 2 => v = .pointer (some ⟨BB, 0, none⟩)
  | 3 => v = .int .i64 q
  | 4 => v = .pointer (some ⟨BB, 1, none⟩)
  | 5 => v = .slice av m cv
  | 6 => ∃ a c, v = .slice a m c ∧ IntsAt .i64 w a zs ∧ (∀ x, a = some x → BB < x.block)
  | 7 => ∃ a c, v = .agg #[.int .i64 q, .slice a m c] ∧ IntsAt .i64 w a zs ∧ (∀ x, a = some x → BB < x.block)
  | 8 => v = .pointer (some ⟨G, k * 2, none⟩)
  | _ => True
theorem F_cc_mono (BB G n k m : Nat) (q : Int) (av : Option Addr) (cv : Nat) (zs : List Int) : Facts (F_cc BB G n k m q av cv zs) := ⟨by
  intro j v w w' h hb
  unfold F_cc at h ⊢
  split at h
  all_goals first
    | exact h
    | (obtain ⟨a, c, e, hi, hx⟩ := h; exact ⟨a, c, e, hi.below hb, hx⟩)
    | trivial⟩
/-- a component in the making: its numbers lie in another block than the row -/
def CompNew (G : Nat) (w : World) (i : Nat) (y : CompV) : Prop := w.cell? ⟨G, i, none⟩ = some (.int .i64 y.kind) ∧ ∃ a c, w.cell? ⟨G, i + 1, none⟩ = some (.slice a y.vals.length c) ∧ IntsAt .i64 w a y.vals ∧ (∀ x, a = some x → G < x.block)
theorem ints_far {k : IntKind} {w : World} {a : Option Addr} {zs : List Int} (h : IntsAt k w a zs) {p : Addr} (hx : ∀ x, a = some x → x.block ≠ p.block) (v : Value) : IntsAt k (w.setCell p v) a zs := fun h0 => by
  obtain ⟨x, e, h1, h2⟩ := h h0
  refine ⟨x, e, by simpa using h1, fun i hi => ?_⟩
  rw [cell_set_ne (fun e2 => hx x e (by rw [e2, block_of_add]))]
  exact h2 i hi
theorem CompNew.below {G : Nat} {w w' : World} {i : Nat} {y : CompV} (h : CompNew G w i y) (hb : Below w.heap.size w w') : CompNew G w' i y := by
  obtain ⟨h1, a, c, h2, h3, h4⟩ := h
  exact ⟨cell_abides h1 hb, a, c, cell_abides h2 hb, h3.below hb, h4⟩
theorem CompNew.far {G : Nat} {w : World} {i : Nat} {y : CompV} (h : CompNew G w i y) (j : Nat) (v : Value) (n1 : j ≠ i) (n2 : j ≠ i + 1) : CompNew G (w.setCell ⟨G, j, none⟩ v) i y := by
  obtain ⟨h1, a, c, h2, h3, h4⟩ := h
  exact ⟨by rw [cell_set_ne (fun e => n1 (by injection e))]; exact h1, a, c, by rw [cell_set_ne (fun e => n2 (by injection e))]; exact h2, ints_far h3 (fun x e => by have := h4 x e; show x.block ≠ G; omega) v, h4⟩
theorem CompNew.at {G : Nat} {w : World} {i : Nat} {y : CompV} (h : CompNew G w i y) : CompAt w ⟨G, i, none⟩ y := by
  obtain ⟨h1, a, c, h2, h3, _⟩ := h
  exact ⟨h1, a, c, h2, h3⟩
/-- one element written -/
theorem CompNew.new {G : Nat} {w : World} {i : Nat} {y : CompV} {a : Option Addr} {c : Nat} {o1 o2 : Value} (h1 : w.cell? ⟨G, i, none⟩ = some o1) (h2 : w.cell? ⟨G, i + 1, none⟩ = some o2) (hi : IntsAt .i64 w a y.vals) (hx0 : ∀ x, a = some x → G < x.block) :
    CompNew G ((w.setCell ⟨G, i, none⟩ (.int .i64 y.kind)).setCell ⟨G, i + 1, none⟩ (.slice a y.vals.length c)) i y := by
  have hx : ∀ x, a = some x → x.block ≠ G := fun x e => by have := hx0 x e; omega
  have hne : (⟨G, i + 1, none⟩ : Addr) ≠ ⟨G, i, none⟩ := fun e => by injection e with _ e; omega
  refine ⟨?_, a, c, ?_, ints_far (ints_far hi hx _) hx _, hx0⟩
  · rw [cell_set_ne hne]; exact cell_set_eq h1
  · exact cell_set_eq (u := o2) (by rw [cell_set_ne hne.symm]; exact h2)
theorem CompNew.up {G : Nat} {w w2 : World} {i : Nat} {y : CompV} (h : CompNew G w i y) (hs : SameUp G w w2) : CompNew G w2 i y := by
  obtain ⟨h1, a, c, h2, h3, h4⟩ := h
  exact ⟨cell_up hs (Nat.le_refl _) h1, a, c, cell_up hs (Nat.le_refl _) h2, ints_up hs (fun x e => Nat.le_of_lt (h4 x e)) h3, h4⟩
def CopyPost (l : List CompV) (n : Nat) (W : World) (e : Ending) (w' : World) : Prop := ∃ a, e = .returned (.slice a n n) ∧ Up W.heap.size (fun w => SlAt 2 CompAt w a l) w' ∧ Below W.heap.size W w'
set_option maxHeartbeats 4000000 in
theorem copy_comps (l : List CompV) (a : Option Addr) (n cap : Nat) (hn : l.length = n) (h1 : n ≤ 1048576) (hv : ∀ y ∈ l, y.vals.length ≤ 1048576) (W : World) (hz : SlAt 2 CompAt W a l) :
    Calls Try.prog 86 #[.slice a n cap] W (CopyPost l n W) := by
  have HN := Lib.hid hn
  have HZ := Lib.hid hz
  have HV := Lib.hid hv
  clear hn hz hv
  go_enter Try.func86, Try.ntmps86
  go_wp2_with (at_make; go_must (refine wpList_make_blk rfl _ _ 78 rfl 84 (.agg #[.int .i64 0, .slice none 0 0]) 2 32 Try.underlying78 (by kernel_rfl) _ _ _ _ n rfl rfl rfl rfl ?b1 ?b2 ?_))
  case b1 => omega
  case b2 => unfold maxLen; omega
  intro w1 hblk hb1 hs1
  obtain ⟨G, hG⟩ : ∃ G, G = W.heap.size := ⟨_, rfl⟩
  rw [← hG] at hblk hs1 ⊢
  have HG := Lib.hid hG
  have HBLK := Lib.hid hblk
  have HB1 := Lib.hid hb1
  clear hG hblk hb1 hs1
  go_wp2_with fail
  go_loopg [4, 5, 11] n (fun gk v4 v5 vi wx => ∃ k : Nat, k ≤ n ∧ gk = n - k ∧ vi = .int .i64 k ∧ Blk wx G 84 (n * 2) ∧ (∀ j (h : j < l.length), j < k → CompNew G wx (j * 2) l[j]) ∧ Below W.heap.size W wx)
  case atStart => exact ⟨0, Nat.zero_le _, rfl, rfl, HBLK.out, fun j h h2 => absurd h2 (by omega), HB1.out⟩
  case round =>
    obtain ⟨k, hk, g2, rfl, hblk, hat, hb⟩ := hrel
    have G2 := Lib.hid g2
    have HB := Lib.hid hb
    have HBLK2 := Lib.hid hblk
    have HAT := Lib.hid hat
    have hgl := hblk.lt
    clear g2 hb hblk hat HBLK HB1
    by_cases hlt : k < n
    · obtain ⟨x, rfl, hx, hi⟩ := (HZ.out.below CompAt.abides HB.out) (by rw [HN.out]; omega)
      obtain ⟨c0, av, cv, c1, hv⟩ := hi k (by rw [HN.out]; exact hlt)
      obtain ⟨y, hy⟩ : ∃ y, y = l[k]'(by rw [HN.out]; exact hlt) := ⟨_, rfl⟩
      rw [← hy] at c0 c1 hv
      have hm : y.vals.length ≤ 1048576 := HV.out y (by rw [hy]; exact List.getElem_mem _)
      obtain ⟨m, hm2⟩ : ∃ m, m = y.vals.length := ⟨_, rfl⟩
      rw [← hm2] at c1 hm
      obtain ⟨q, hq⟩ : ∃ q, q = y.kind := ⟨_, rfl⟩
      rw [← hq] at c0
      have HY := Lib.hid hy
      have HM := Lib.hid hm2
      have HQ := Lib.hid hq
      have HI := Lib.hid hv
      clear hi hv hy hm2 hq
      go_wp2_with fail
      have B0 : (wr.alloc (.cells #[.int .i64 q, .slice av m cv] 84)).cell? ⟨wr.heap.size, 0, none⟩ = some (.int .i64 q) := by simp
      have B1 : (wr.alloc (.cells #[.int .i64 q, .slice av m cv] 84)).cell? ⟨wr.heap.size, 1, none⟩ = some (.slice av m cv) := by simp
      have hb0 := (Below.refl wr.heap.size wr).alloc (Nat.le_refl _) (.cells #[.int .i64 q, .slice av m cv] 84)
      have HC := Lib.hid (clone_at y.vals av m cv HM.out.symm (by omega))
      have HI2 := Lib.hid (HI.out.below hb0)
      refine wp_region_facts rfl 9 (by kernel_rfl) (F_cc wr.heap.size G n k m q av cv y.vals) (F_cc_mono wr.heap.size G n k m q av cv y.vals) ?_ ?_
      · refine ⟨?_, ?_, ?_, ?_, ?_, ?_, ?_, ?_, ?_, trivial⟩
        · intro vs w' F hb hd hF hl
          have e := (hF 3).trans (look_out _ 3 _ _ (by kernel_rfl))
          exact one_move _ rfl (by first | exact Or.inl rfl | exact Or.inr rfl) ⟨_, rfl, Below.refl _ _, e⟩
        · intro vs w' F hb hd hF hl
          have e := (hF 4).trans (look_out _ 4 _ _ (by kernel_rfl))
          exact one_move _ rfl (by first | exact Or.inl rfl | exact Or.inr rfl) ⟨_, rfl, Below.refl _ _, e⟩
        · intro vs w' F hb hd hF hl
          have e := (hF 5).trans (look_out _ 5 _ _ (by kernel_rfl))
          exact one_field _ _ _ rfl rfl _ _ e _ (fun w => by kernel_rfl) ⟨_, rfl, Below.refl _ _, rfl⟩
        · intro vs w' F hb hd hF hl
          have e := ((hF 18).trans (look_at _ 18 2 _ _ (by kernel_rfl) (by kernel_rfl) hl)).trans (dep_of (Fact := F_cc wr.heap.size G n k m q av cv y.vals) hd 2 (by kernel_rfl))
          exact one_load _ _ rfl rfl _ _ e (cell_abides B0 hb) (by kernel_rfl) ⟨_, rfl, Below.refl _ _, rfl⟩
        · intro vs w' F hb hd hF hl
          have e := (hF 5).trans (look_out _ 5 _ _ (by kernel_rfl))
          exact one_field _ _ _ rfl rfl _ _ e _ (fun w => by kernel_rfl) ⟨_, rfl, Below.refl _ _, rfl⟩
        · intro vs w' F hb hd hF hl
          have e := ((hF 20).trans (look_at _ 20 4 _ _ (by kernel_rfl) (by kernel_rfl) hl)).trans (dep_of (Fact := F_cc wr.heap.size G n k m q av cv y.vals) hd 4 (by kernel_rfl))
          exact one_load _ _ rfl rfl _ _ e (cell_abides B1 hb) (by kernel_rfl) ⟨_, rfl, Below.refl _ _, rfl⟩
        · intro vs w' F hb hd hF hl
          have e := (((hF 21).trans (look_at _ 21 5 _ _ (by kernel_rfl) (by kernel_rfl) hl)).trans (dep_of (Fact := F_cc wr.heap.size G n k m q av cv y.vals) hd 5 (by kernel_rfl)))
          refine one_call _ _ rfl rfl (enters_of Try.func25 (by kernel_rfl) rfl) #[.slice av m cv] (eval1 e) ?_
          refine (HC.out w' (HI2.out.below hb)).mono ?_
          rintro e2 w2 ⟨a2, c2, rfl, hi2, hx2, hb2⟩
          exact ⟨_, rfl, _, rfl, hb2, a2, c2, rfl, hi2, fun x hx => by have h1 := hx2 x hx; have h2 := hb.size; simp at h2; omega⟩
        · intro vs w' F hb hd hF hl
          obtain ⟨a2, c2, hv2, hi2, hx2⟩ := (dep_of (Fact := F_cc wr.heap.size G n k m q av cv y.vals) hd 6 (by kernel_rfl))
          have e1 := (((hF 19).trans (look_at _ 19 3 _ _ (by kernel_rfl) (by kernel_rfl) hl)).trans (dep_of (Fact := F_cc wr.heap.size G n k m q av cv y.vals) hd 3 (by kernel_rfl)))
          have e2 := ((hF 22).trans (look_at _ 22 6 _ _ (by kernel_rfl) (by kernel_rfl) hl)).trans hv2
          exact one_build _ _ rfl rfl #[(0, .int .i64 q), (1, .slice a2 m c2)] (parts2 e1 e2) (.agg #[.int .i64 q, .slice a2 m c2]) (fun w => by kernel_rfl) ⟨_, rfl, Below.refl _ _, a2, c2, rfl, hi2, hx2⟩
        · intro vs w' F hb hd hF hl
          have ex := (((hF 16).trans (look_at _ 16 0 _ _ (by kernel_rfl) (by kernel_rfl) hl)).trans (dep_of (Fact := F_cc wr.heap.size G n k m q av cv y.vals) hd 0 (by kernel_rfl)))
          have ey := (((hF 17).trans (look_at _ 17 1 _ _ (by kernel_rfl) (by kernel_rfl) hl)).trans (dep_of (Fact := F_cc wr.heap.size G n k m q av cv y.vals) hd 1 (by kernel_rfl)))
          exact one_index 78 _ _ rfl rfl (.slice (some ⟨G, 0, none⟩) n n) (.int .i64 k) (.pointer (some ⟨G, k * 2, none⟩)) ex ey (fun w => by clear hb hd hF hl ex ey; go_simp) ⟨_, rfl, Below.refl _ _, rfl⟩
      · intro vs W1 hl hb hI
        obtain ⟨a8, c8, i7, hi8, hx8⟩ := hI 7 (by omega)
        have i8 : vs.getD 8 undef = .pointer (some ⟨G, k * 2, none⟩) := hI 8 (by omega)
        obtain ⟨v0, v1, v2, v3, v4, v5, v6, v7, v8, v9, rfl⟩ := list10 hl
        replace i7 : v7 = .agg #[.int .i64 q, .slice a8 m c8] := i7
        replace i8 : v8 = .pointer (some ⟨G, k * 2, none⟩) := i8
        subst i7 i8
        have hblk1 := (HBLK2.out.below hb0).below hb
        obtain ⟨o1, ho1⟩ := hblk1.cell (k * 2) (by omega)
        obtain ⟨o2, ho2⟩ := hblk1.cell (k * 2 + 1) (by omega)
        have f1 := hblk1.frozen (k * 2)
        have f2 := hblk1.frozen (k * 2 + 1)
        have hbw : Below wr.heap.size wr W1 := hb0.trans (hb.mono (by simp))
        have hbn : Below W.heap.size W ((W1.setCell ⟨G, k * 2, none⟩ (.int .i64 q)).setCell ⟨G, k * 2 + 1, none⟩ (.slice a8 m c8)) := ((HB.out.trans (hbw.mono HB.out.size)).setCell (by rw [← HG.out]; exact Nat.le_refl _) _).setCell (by rw [← HG.out]; exact Nat.le_refl _) _
        have HBN := Lib.hid hbn
        have HBK := Lib.hid ((hblk1.set (k * 2) (.int .i64 q)).set (k * 2 + 1) (.slice a8 m c8))
        have hatn : ∀ j (h : j < l.length), j < k + 1 → CompNew G ((W1.setCell ⟨G, k * 2, none⟩ (.int .i64 q)).setCell ⟨G, k * 2 + 1, none⟩ (.slice a8 m c8)) (j * 2) l[j] := by
          intro j h hj
          by_cases hjk : j < k
          · exact (((HAT.out j h hjk).below hbw).far _ _ (by omega) (by omega)).far _ _ (by omega) (by omega)
          · obtain rfl : j = k := by omega
            rw [← HY.out, HQ.out, HM.out]
            exact CompNew.new ho1 ho2 hi8 (fun x hx => by have := hx8 x hx; omega)
        have HATN := Lib.hid hatn
        clear hI hl hb hbw hbn hblk1 hatn hi8 hx8 HC HI2 hb0 B0 B1
        simp only [fillAll, Act.put, List.setIfInBounds_toArray, List.set_cons_succ, List.set_cons_zero]
        go_wp2
        go_roundg (n - (k + 1))
        case measure => rw [G2.out]; omega
        case rel => exact ⟨k + 1, hlt, rfl, by go_num, HBK.out, HATN.out, HBN.out⟩
    · have hke : k = n := by omega
      have HK := Lib.hid hke
      clear hke
      go_wp2_with fail
      go_ret
      refine ⟨some ⟨G, 0, none⟩, rfl, fun w2 hs h0 => ⟨_, rfl, Nat.lt_of_lt_of_le hgl hs.1, fun i hi => ?_⟩, HB.out⟩
      have := HAT.out i hi (by rw [HK.out, ← HN.out]; exact hi)
      rw [add_zero_block]; exact (this.up (by rw [HG.out]; exact hs)).at
end Go.Proofs.Ytlahmcbaiebapaa
