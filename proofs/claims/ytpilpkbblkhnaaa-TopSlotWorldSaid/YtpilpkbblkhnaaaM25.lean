/- Lemmas for the law TopSlotWorld: CopyCO, KindCopyO, WCopyO. No conditions. -/
import Derived.Test.YtpilpkbblkhnaaaM24
import Derived.Test.YtpilpkbblkhnaaaM20
import Derived.Test.YtpilpkbblkhnaaaM10
import Derived.Deep.LoopGhost
import Derived.Test.YtpilpkbblkhnaaaM06
import Derived.Shelf.Abstract
import Derived.Test.YtpilpkbblkhnaaaM21
/- world.CopyComps: the copy is the call's own, row and numbers. By program (gen_copyco.py). -/
section
namespace Go.Proofs.Ytpilpkbblkhnaaa
open Go.ChangeShapes Go.WideShapes Go.ChangeAt Go.RowKit Go.Mem
set_option linter.unusedVariables false
def F_cco (BB G n k m : Nat) (q : Int) (av : Option Addr) (cv : Nat) (zs : List Int) (j : Nat) (v : Value) (w : World) : Prop :=
  match j with
  | 0 => v = .slice (some ⟨G, 0, none⟩) n n
  | 1 => v = .int .i64 k
  | 2 => v = .pointer (some ⟨BB, 0, none⟩)
  | 3 => v = .int .i64 q
  | 4 => v = .pointer (some ⟨BB, 1, none⟩)
  | 5 => v = .slice av m cv
  | 6 => ∃ a c, v = .slice a m c ∧ w.ownsRow (BB + 1) 3 1 (.slice a m c) m (vints .i64 zs)
  | 7 => ∃ a c, v = .agg #[.int .i64 q, .slice a m c] ∧ w.ownsRow (BB + 1) 3 1 (.slice a m c) m (vints .i64 zs)
  | 8 => v = .pointer (some ⟨G, k * 2, none⟩)
  | _ => True
theorem F_cco_mono (BB G n k m : Nat) (q : Int) (av : Option Addr) (cv : Nat) (zs : List Int) : Facts (F_cco BB G n k m q av cv zs) := ⟨by
  intro j v w w' h hb
  unfold F_cco at h ⊢
  split at h
  all_goals first
    | exact h
    | (obtain ⟨a, c, e, hi⟩ := h; exact ⟨a, c, e, own_below hi hb⟩)
    | trivial⟩
/-- a component in the making -/
def CNew (G : Nat) (w : World) (i : Nat) (y : CompV) (v : Value) : Prop := w.cell? ⟨G, i, none⟩ = some (.int .i64 y.kind) ∧ w.cell? ⟨G, i + 1, none⟩ = some v ∧ w.ownsRow (G + 1) 3 1 v y.vals.length (vints .i64 y.vals)
theorem own_set {w : World} {lo G j e size n : Nat} {u v : Value} {xs : List Value} (h : w.ownsRow lo e size v n xs) (hl : G < lo) : (w.setCell ⟨G, j, none⟩ u).ownsRow lo e size v n xs :=
  own_grown h (Dl.gb_set (Dl.gb_refl w (some G)) j u) (fun g hg e => by injection e with e; have := own_lt h g hg; omega)
theorem CNew.below {G : Nat} {w w' : World} {i : Nat} {y : CompV} {v : Value} (h : CNew G w i y v) (hb : Below w.heap.size w w') : CNew G w' i y v := ⟨cell_abides h.1 hb, cell_abides h.2.1 hb, own_below h.2.2 hb⟩
theorem CNew.far {G : Nat} {w : World} {i : Nat} {y : CompV} {v : Value} (h : CNew G w i y v) (j : Nat) (u : Value) (n1 : j ≠ i) (n2 : j ≠ i + 1) : CNew G (w.setCell ⟨G, j, none⟩ u) i y v :=
  ⟨by rw [cell_set_ne (fun e => n1 (by injection e))]; exact h.1, by rw [cell_set_ne (fun e => n2 (by injection e))]; exact h.2.1, own_set h.2.2 (by omega)⟩
theorem CNew.new {G : Nat} {w : World} {i : Nat} {y : CompV} {v : Value} {o1 o2 : Value} (h1 : w.cell? ⟨G, i, none⟩ = some o1) (h2 : w.cell? ⟨G, i + 1, none⟩ = some o2) (hf : w.ownsRow (G + 1) 3 1 v y.vals.length (vints .i64 y.vals)) :
    CNew G ((w.setCell ⟨G, i, none⟩ (.int .i64 y.kind)).setCell ⟨G, i + 1, none⟩ v) i y v := by
  have hne : (⟨G, i + 1, none⟩ : Addr) ≠ ⟨G, i, none⟩ := fun e => by injection e with _ e; omega
  refine ⟨?_, ?_, own_set (own_set hf (by omega)) (by omega)⟩
  · rw [cell_set_ne hne]; exact cell_set_eq h1
  · exact cell_set_eq (u := o2) (by rw [cell_set_ne hne.symm]; exact h2)
def CopyPostO (l : List CompV) (n : Nat) (W : World) (e : Ending) (w' : World) : Prop := (e = .returned (.slice (some ⟨W.heap.size, 0, none⟩) n n) ∧ COwnS W.heap.size w' (.slice (some ⟨W.heap.size, 0, none⟩) n n) l) ∧ Below W.heap.size W w'
set_option maxHeartbeats 4000000 in
theorem copy_compsO (l : List CompV) (a : Option Addr) (n cap : Nat) (hn : l.length = n) (h1 : n ≤ 1048576) (hv : ∀ y ∈ l, y.vals.length ≤ 1048576) (W : World) (hz : SlAt 2 CompAt W a l) :
    Calls Try.prog 59 #[.slice a n cap] W (CopyPostO l n W) := by
  have HN := Lib.hid hn
  have HZ := Lib.hid hz
  have HV := Lib.hid hv
  clear hn hz hv
  go_enter Try.func59, Try.ntmps59
  go_wp2_with (at_make; go_must (refine wpList_make_blk rfl _ _ 31 rfl 60 (.agg #[.int .i64 0, .slice none 0 0]) 2 32 Try.underlying31 (by kernel_rfl) _ _ _ _ n rfl rfl rfl rfl ?b1 ?b2 ?_))
  case b1 => omega
  case b2 => unfold maxLen; omega
  intro w1 hblk hb1 hs1
  obtain ⟨G, hG⟩ : ∃ G, G = W.heap.size := ⟨_, rfl⟩
  rw [← hG] at hblk hs1 ⊢
  have HG := Lib.hid hG
  have HBLK := Lib.hid hblk
  have HB1 := Lib.hid hb1
  clear hG hblk hb1 hs1
  go_wp2_with fail
  go_loopg [4, 5, 11] n (fun gk v4 v5 vi wx => ∃ k : Nat, k ≤ n ∧ gk = n - k ∧ vi = .int .i64 k ∧ Blk wx G 60 (n * 2) ∧ (∃ U : List Value, U.length = k ∧ ∀ j (h : j < l.length) (h' : j < U.length), CNew G wx (j * 2) l[j] U[j]) ∧ Below W.heap.size W wx)
  case atStart => exact ⟨0, Nat.zero_le _, rfl, rfl, HBLK.out, ⟨[], rfl, fun j h h' => absurd h' (Nat.not_lt_zero _)⟩, HB1.out⟩
  case round =>
    obtain ⟨k, hk, g2, rfl, hblk, hat, hb⟩ := hrel
    have G2 := Lib.hid g2
    have HB := Lib.hid hb
    have HBLK2 := Lib.hid hblk
    have HAT := Lib.hid hat
    have hgl := hblk.lt
    clear g2 hb hblk hat HBLK HB1
    by_cases hlt : k < n
    · obtain ⟨x, rfl, hx, hi⟩ := (HZ.out.below CompAt.abides HB.out) (by rw [HN.out]; omega)
      obtain ⟨c0, av, cv, c1, hv⟩ := hi k (by rw [HN.out]; exact hlt)
      obtain ⟨y, hy⟩ : ∃ y, y = l[k]'(by rw [HN.out]; exact hlt) := ⟨_, rfl⟩
      rw [← hy] at c0 c1 hv
      have hm : y.vals.length ≤ 1048576 := HV.out y (by rw [hy]; exact List.getElem_mem _)
      obtain ⟨m, hm2⟩ : ∃ m, m = y.vals.length := ⟨_, rfl⟩
      rw [← hm2] at c1 hm
      obtain ⟨q, hq⟩ : ∃ q, q = y.kind := ⟨_, rfl⟩
      rw [← hq] at c0
      have HY := Lib.hid hy
      have HM := Lib.hid hm2
      have HQ := Lib.hid hq
      have HI := Lib.hid hv
      clear hi hv hy hm2 hq
      go_wp2_with fail
      have B0 : (wr.alloc (.cells #[.int .i64 q, .slice av m cv] 60)).cell? ⟨wr.heap.size, 0, none⟩ = some (.int .i64 q) := by simp
      have B1 : (wr.alloc (.cells #[.int .i64 q, .slice av m cv] 60)).cell? ⟨wr.heap.size, 1, none⟩ = some (.slice av m cv) := by simp
      have hb0 := (Below.refl wr.heap.size wr).alloc (Nat.le_refl _) (.cells #[.int .i64 q, .slice av m cv] 60)
      have HC := Lib.hid (clone_intsN y.vals av m cv HM.out.symm (by omega))
      have HI2 := Lib.hid (HI.out.below hb0)
      refine wp_region_facts rfl 9 (by kernel_rfl) (F_cco wr.heap.size G n k m q av cv y.vals) (F_cco_mono wr.heap.size G n k m q av cv y.vals) ?_ ?_
      · refine ⟨?_, ?_, ?_, ?_, ?_, ?_, ?_, ?_, ?_, trivial⟩
        · intro vs w' F hb hd hF hl
          have e := (hF 3).trans (look_out _ 3 _ _ (by kernel_rfl))
          exact one_move _ rfl (by first | exact Or.inl rfl | exact Or.inr rfl) ⟨_, rfl, Below.refl _ _, e⟩
        · intro vs w' F hb hd hF hl
          have e := (hF 4).trans (look_out _ 4 _ _ (by kernel_rfl))
          exact one_move _ rfl (by first | exact Or.inl rfl | exact Or.inr rfl) ⟨_, rfl, Below.refl _ _, e⟩
        · intro vs w' F hb hd hF hl
          have e := (hF 5).trans (look_out _ 5 _ _ (by kernel_rfl))
          exact one_field _ _ _ rfl rfl _ _ e _ (fun w => by kernel_rfl) ⟨_, rfl, Below.refl _ _, rfl⟩
        · intro vs w' F hb hd hF hl
          have e := ((hF 18).trans (look_at _ 18 2 _ _ (by kernel_rfl) (by kernel_rfl) hl)).trans (dep_of (Fact := F_cco wr.heap.size G n k m q av cv y.vals) hd 2 (by kernel_rfl))
          exact one_load _ _ rfl rfl _ _ e (cell_abides B0 hb) (by kernel_rfl) ⟨_, rfl, Below.refl _ _, rfl⟩
        · intro vs w' F hb hd hF hl
          have e := (hF 5).trans (look_out _ 5 _ _ (by kernel_rfl))
          exact one_field _ _ _ rfl rfl _ _ e _ (fun w => by kernel_rfl) ⟨_, rfl, Below.refl _ _, rfl⟩
        · intro vs w' F hb hd hF hl
          have e := ((hF 20).trans (look_at _ 20 4 _ _ (by kernel_rfl) (by kernel_rfl) hl)).trans (dep_of (Fact := F_cco wr.heap.size G n k m q av cv y.vals) hd 4 (by kernel_rfl))
          exact one_load _ _ rfl rfl _ _ e (cell_abides B1 hb) (by kernel_rfl) ⟨_, rfl, Below.refl _ _, rfl⟩
        · intro vs w' F hb hd hF hl
          have e := (((hF 21).trans (look_at _ 21 5 _ _ (by kernel_rfl) (by kernel_rfl) hl)).trans (dep_of (Fact := F_cco wr.heap.size G n k m q av cv y.vals) hd 5 (by kernel_rfl)))
          refine one_call _ _ rfl rfl (enters_of Try.func58 (by kernel_rfl) rfl) #[.slice av m cv] (eval1 e) ?_
          refine (HC.out w' (HI2.out.below hb)).mono ?_
          rintro e2 w2 ⟨v2, rfl, ho2, hb2, _⟩
          have hsz := hb.size
          simp at hsz
          obtain ⟨a2, c2, rfl⟩ := own_slC ho2
          exact ⟨_, rfl, _, rfl, hb2, a2, c2, rfl, own_lower ho2 (by omega)⟩
        · intro vs w' F hb hd hF hl
          obtain ⟨a2, c2, hv2, hr2⟩ := (dep_of (Fact := F_cco wr.heap.size G n k m q av cv y.vals) hd 6 (by kernel_rfl))
          have e1 := (((hF 19).trans (look_at _ 19 3 _ _ (by kernel_rfl) (by kernel_rfl) hl)).trans (dep_of (Fact := F_cco wr.heap.size G n k m q av cv y.vals) hd 3 (by kernel_rfl)))
          have e2 := ((hF 22).trans (look_at _ 22 6 _ _ (by kernel_rfl) (by kernel_rfl) hl)).trans hv2
          exact one_build _ _ rfl rfl #[(0, .int .i64 q), (1, .slice a2 m c2)] (parts2 e1 e2) (.agg #[.int .i64 q, .slice a2 m c2]) (fun w => by kernel_rfl) ⟨_, rfl, Below.refl _ _, a2, c2, rfl, hr2⟩
        · intro vs w' F hb hd hF hl
          have ex := (((hF 16).trans (look_at _ 16 0 _ _ (by kernel_rfl) (by kernel_rfl) hl)).trans (dep_of (Fact := F_cco wr.heap.size G n k m q av cv y.vals) hd 0 (by kernel_rfl)))
          have ey := (((hF 17).trans (look_at _ 17 1 _ _ (by kernel_rfl) (by kernel_rfl) hl)).trans (dep_of (Fact := F_cco wr.heap.size G n k m q av cv y.vals) hd 1 (by kernel_rfl)))
          exact one_index 31 _ _ rfl rfl (.slice (some ⟨G, 0, none⟩) n n) (.int .i64 k) (.pointer (some ⟨G, k * 2, none⟩)) ex ey (fun w => by clear hb hd hF hl ex ey; go_simp) ⟨_, rfl, Below.refl _ _, rfl⟩
      · intro vs W1 hl hb hI
        obtain ⟨a8, c8, i7, hi8⟩ := hI 7 (by omega)
        have i8 : vs.getD 8 undef = .pointer (some ⟨G, k * 2, none⟩) := hI 8 (by omega)
        obtain ⟨v0, v1, v2, v3, v4, v5, v6, v7, v8, v9, rfl⟩ := list10 hl
        replace i7 : v7 = .agg #[.int .i64 q, .slice a8 m c8] := i7
        replace i8 : v8 = .pointer (some ⟨G, k * 2, none⟩) := i8
        subst i7 i8
        have hblk1 := (HBLK2.out.below hb0).below hb
        obtain ⟨o1, ho1⟩ := hblk1.cell (k * 2) (by omega)
        obtain ⟨o2, ho2⟩ := hblk1.cell (k * 2 + 1) (by omega)
        have f1 := hblk1.frozen (k * 2)
        have f2 := hblk1.frozen (k * 2 + 1)
        have hbw : Below wr.heap.size wr W1 := hb0.trans (hb.mono (by simp))
        have hbn : Below W.heap.size W ((W1.setCell ⟨G, k * 2, none⟩ (.int .i64 q)).setCell ⟨G, k * 2 + 1, none⟩ (.slice a8 m c8)) := ((HB.out.trans (hbw.mono HB.out.size)).setCell (by rw [← HG.out]; exact Nat.le_refl _) _).setCell (by rw [← HG.out]; exact Nat.le_refl _) _
        have HBN := Lib.hid hbn
        have HBK := Lib.hid ((hblk1.set (k * 2) (.int .i64 q)).set (k * 2 + 1) (.slice a8 m c8))
        have hfo : W1.ownsRow (G + 1) 3 1 (.slice a8 m c8) y.vals.length (vints .i64 y.vals) := by rw [← HM.out]; exact own_lower hi8 (by omega)
        have hatn : ∃ U : List Value, U.length = k + 1 ∧ ∀ j (h : j < l.length) (h' : j < U.length), CNew G ((W1.setCell ⟨G, k * 2, none⟩ (.int .i64 q)).setCell ⟨G, k * 2 + 1, none⟩ (.slice a8 m c8)) (j * 2) l[j] U[j] := by
          obtain ⟨U, hU, hat⟩ := HAT.out
          refine ⟨U ++ [.slice a8 m c8], by rw [List.length_append, hU]; rfl, fun j h h' => ?_⟩
          by_cases hjk : j < U.length
          · rw [List.getElem_append_left hjk]
            exact (((hat j h hjk).below hbw).far _ _ (by omega) (by omega)).far _ _ (by omega) (by omega)
          · rw [List.length_append] at h'
            have hjk2 : j = k := by have : [Value.slice a8 m c8].length = 1 := rfl; omega
            subst hjk2
            rw [List.getElem_append_right (by omega)]
            simp only [hU, Nat.sub_self, List.getElem_cons_zero]
            rw [← HY.out, HQ.out]
            exact CNew.new ho1 ho2 hfo
        have HATN := Lib.hid hatn
        clear hI hl hb hbw hbn hblk1 hatn hi8 hfo HC HI2 hb0 B0 B1
        simp only [fillAll, Act.put, List.setIfInBounds_toArray, List.set_cons_succ, List.set_cons_zero]
        go_wp2
        go_roundg (n - (k + 1))
        case measure => rw [G2.out]; omega
        case rel => exact ⟨k + 1, hlt, rfl, by go_num, HBK.out, HATN.out, HBN.out⟩
    · have hke : k = n := by omega
      have HK := Lib.hid hke
      clear hke
      go_wp2_with fail
      go_ret
      obtain ⟨U, hU, hat⟩ := HAT.out
      unfold CopyPostO
      rw [← HG.out]
      refine ⟨⟨rfl, U, by rw [hU, HK.out, HN.out], ?_, fun j hj hj' => own_lower (hat j hj hj').2.2 (by omega)⟩, by rw [HG.out]; exact HB.out⟩
      exact own_of_blkC HBLK2.out HN.out (by rw [hU, HK.out, HN.out]) (by unfold maxLen; omega) (fun i h h' => ⟨(hat i h h').1, (hat i h h').2.1⟩)
end Go.Proofs.Ytpilpkbblkhnaaa
end
/- kind.Copy: the copy is the call's own, each kind's fields in a block of its own. By program (gen_kindcopyo.py). -/
section
namespace Go.Proofs.Ytpilpkbblkhnaaa
open Go.ChangeShapes Go.WideShapes Go.ChangeAt Go.RowKit Go.Nm Go.Mem
set_option linter.unusedVariables false
def F_kco (BB G n k m : Nat) (q : ByteArray) (av : Option Addr) (cv : Nat) (y : KindV) (j : Nat) (v : Value) (w : World) : Prop :=
  match j with
  | 0 => v = .slice (some ⟨G, 0, none⟩) n n
  | 1 => v = .int .i64 k
  | 2 => v = .pointer (some ⟨BB, 0, none⟩)
  | 3 => v = .string q
  | 4 => v = .pointer (some ⟨BB, 1, none⟩)
  | 5 => v = .slice av m cv
  | 6 => ∃ a c, v = .slice a m c ∧ (∀ x, a = some x → BB < x.block) ∧ w.ownsRow (BB + 1) 55 3 (.slice a m c) m (fvals y.fields)
  | 7 => ∃ a c, v = .agg #[.string q, .slice a m c] ∧ (∀ x, a = some x → BB < x.block) ∧ w.ownsRow (BB + 1) 55 3 (.slice a m c) m (fvals y.fields)
  | 8 => v = .pointer (some ⟨G, k * 2, none⟩)
  | _ => True
theorem F_kco_mono (BB G n k m : Nat) (q : ByteArray) (av : Option Addr) (cv : Nat) (y : KindV) : Facts (F_kco BB G n k m q av cv y) := ⟨by
  intro j v w w' h hb
  unfold F_kco at h ⊢
  split at h
  all_goals first
    | exact h
    | (obtain ⟨a, c, e, hx, hi⟩ := h; exact ⟨a, c, e, hx, own_below hi hb⟩)
    | trivial⟩
/-- a kind in the making -/
def KNew (G : Nat) (w : World) (i : Nat) (y : KindV) (v : Value) : Prop := w.cell? ⟨G, i, none⟩ = some (.string y.name) ∧ w.cell? ⟨G, i + 1, none⟩ = some v ∧ FOwn w (G + 1) v y.fields ∧ y.name.size ≤ 9223372036854775807
theorem fown_set {w : World} {lo G j : Nat} {u v : Value} {l : List FieldV} (h : FOwn w lo v l) (hl : G < lo) : FOwn (w.setCell ⟨G, j, none⟩ u) lo v l :=
  h.grown (Dl.gb_set (Dl.gb_refl w (some G)) j u) (fun g hg e => by injection e with e; have := h.lt g hg; omega)
theorem KNew.below {G : Nat} {w w' : World} {i : Nat} {y : KindV} {v : Value} (h : KNew G w i y v) (hb : Below w.heap.size w w') : KNew G w' i y v := ⟨cell_abides h.1 hb, cell_abides h.2.1 hb, h.2.2.1.below hb, h.2.2.2⟩
theorem KNew.far {G : Nat} {w : World} {i : Nat} {y : KindV} {v : Value} (h : KNew G w i y v) (j : Nat) (u : Value) (n1 : j ≠ i) (n2 : j ≠ i + 1) : KNew G (w.setCell ⟨G, j, none⟩ u) i y v :=
  ⟨by rw [cell_set_ne (fun e => n1 (by injection e))]; exact h.1, by rw [cell_set_ne (fun e => n2 (by injection e))]; exact h.2.1, fown_set h.2.2.1 (by omega), h.2.2.2⟩
theorem KNew.new {G : Nat} {w : World} {i : Nat} {y : KindV} {v : Value} {o1 o2 : Value} (hs : y.name.size ≤ 9223372036854775807) (h1 : w.cell? ⟨G, i, none⟩ = some o1) (h2 : w.cell? ⟨G, i + 1, none⟩ = some o2) (hf : FOwn w (G + 1) v y.fields) :
    KNew G ((w.setCell ⟨G, i, none⟩ (.string y.name)).setCell ⟨G, i + 1, none⟩ v) i y v := by
  have hne : (⟨G, i + 1, none⟩ : Addr) ≠ ⟨G, i, none⟩ := fun e => by injection e with _ e; omega
  refine ⟨?_, ?_, fown_set (fown_set hf (by omega)) (by omega), hs⟩
  · rw [cell_set_ne hne]; exact cell_set_eq h1
  · exact cell_set_eq (u := o2) (by rw [cell_set_ne hne.symm]; exact h2)
set_option maxHeartbeats 8000000 in
theorem kind_CopyO (l : List KindV) (a : Option Addr) (n cap : Nat) (hn : l.length = n) (h1 : n ≤ 3518437208780) (hv : ∀ y ∈ l, y.fields.length ≤ 4398046510976) (W : World) (hz : SlAt 2 KindAt W a l) :
    Calls Try.prog 41 #[.slice a n cap] W fun e w' => (∃ V, e = .returned (.slice (some ⟨W.heap.size, 0, none⟩) n n) ∧ OwnK w' W.heap.size (.slice (some ⟨W.heap.size, 0, none⟩) n n) l V) ∧ Below W.heap.size W w' := by
  have HN := Lib.hid hn
  have HZ := Lib.hid hz
  have HV := Lib.hid hv
  clear hn hz hv
  go_enter Try.func41, Try.ntmps41
  go_wp2_with (at_make; (refine wpList_make_blk (z := .agg #[.string ByteArray.empty, .slice none 0 0]) (sz := 2) (bytes := 40) (e := 58) rfl _ _ 24 rfl (h2 := inf_kind3) (h1 := Try.underlying24) .i64 .i64 (n : Int) (n : Int) n rfl rfl rfl rfl ?b1 ?b2 ?_; (case b1 => omega); (case b2 => (unfold maxLen; omega))))
  intro w1 hblk hb1 hs1
  obtain ⟨G, hG⟩ : ∃ G, G = W.heap.size := ⟨_, rfl⟩
  rw [← hG] at hblk hs1 ⊢
  have HG := Lib.hid hG
  have HBLK := Lib.hid hblk
  have HB1 := Lib.hid hb1
  clear hG hblk hb1 hs1
  go_wp2_with fail
  go_loopg [4, 5, 11] n (fun gk v4 v5 vi wx => ∃ k : Nat, k ≤ n ∧ gk = n - k ∧ vi = .int .i64 k ∧ Blk wx G 58 (n * 2) ∧ (∃ V : List Value, V.length = k ∧ (∀ j (h : j < l.length) (h' : j < V.length), KNew G wx (j * 2) l[j] V[j]) ∧ ∀ i j (h : i < V.length) (h' : j < V.length), i ≠ j → ∀ g, V[i].ownBlock = some g → V[j].ownBlock ≠ some g) ∧ Below W.heap.size W wx)
  case atStart => exact ⟨0, Nat.zero_le _, rfl, rfl, HBLK.out, ⟨[], rfl, fun j h h' => absurd h' (Nat.not_lt_zero _), fun i j h => absurd h (Nat.not_lt_zero _)⟩, HB1.out⟩
  case round =>
    obtain ⟨k, hk, g2, rfl, hblk, hat, hb⟩ := hrel
    have G2 := Lib.hid g2
    have HB := Lib.hid hb
    have HBLK2 := Lib.hid hblk
    have HAT := Lib.hid hat
    have hgl := hblk.lt
    clear g2 hb hblk hat HBLK HB1
    by_cases hlt : k < n
    · obtain ⟨x, rfl, hx, hi⟩ := (HZ.out.below KindAt.abides HB.out) (by rw [HN.out]; omega)
      obtain ⟨c0, hnm, av, cv, c1, hc1, hc2, hv⟩ := hi k (by rw [HN.out]; exact hlt)
      obtain ⟨y, hy⟩ : ∃ y, y = l[k]'(by rw [HN.out]; exact hlt) := ⟨_, rfl⟩
      rw [← hy] at c0 c1 hv hnm hc1
      have hm : y.fields.length ≤ 4398046510976 := HV.out y (by rw [hy]; exact List.getElem_mem _)
      obtain ⟨m, hm2⟩ : ∃ m, m = y.fields.length := ⟨_, rfl⟩
      rw [← hm2] at c1 hm hc1
      obtain ⟨q, hq⟩ : ∃ q, q = y.name := ⟨_, rfl⟩
      rw [← hq] at c0
      have HY := Lib.hid hy
      have HM := Lib.hid hm2
      have HQ := Lib.hid hq
      have HNM := Lib.hid hnm
      clear hi hy hm2 hq hnm
      have hb0 := (Below.refl wr.heap.size wr).alloc (Nat.le_refl _) (.cells #[.string q, .slice av m cv] 58)
      have HI2 := Lib.hid (hv.below FieldAt.abides hb0)
      clear hv
      go_wp2_with fail
      have B0 : (wr.alloc (.cells #[.string q, .slice av m cv] 58)).cell? ⟨wr.heap.size, 0, none⟩ = some (.string q) := by simp
      have B1 : (wr.alloc (.cells #[.string q, .slice av m cv] 58)).cell? ⟨wr.heap.size, 1, none⟩ = some (.slice av m cv) := by simp
      refine wp_region_facts rfl 9 (by kernel_rfl) (F_kco wr.heap.size G n k m q av cv y) (F_kco_mono wr.heap.size G n k m q av cv y) ?_ ?_
      · refine ⟨?_, ?_, ?_, ?_, ?_, ?_, ?_, ?_, ?_, trivial⟩
        · intro vs w' F hb hd hF hl
          have e := (hF 3).trans (look_out _ 3 _ _ (by kernel_rfl))
          exact one_move _ rfl (by first | exact Or.inl rfl | exact Or.inr rfl) ⟨_, rfl, Below.refl _ _, e⟩
        · intro vs w' F hb hd hF hl
          have e := (hF 4).trans (look_out _ 4 _ _ (by kernel_rfl))
          exact one_move _ rfl (by first | exact Or.inl rfl | exact Or.inr rfl) ⟨_, rfl, Below.refl _ _, e⟩
        · intro vs w' F hb hd hF hl
          have e := (hF 5).trans (look_out _ 5 _ _ (by kernel_rfl))
          exact one_field _ _ _ rfl rfl _ _ e _ (fun w => by kernel_rfl) ⟨_, rfl, Below.refl _ _, rfl⟩
        · intro vs w' F hb hd hF hl
          have e := ((hF 18).trans (look_at _ 18 2 _ _ (by kernel_rfl) (by kernel_rfl) hl)).trans (dep_of (Fact := F_kco wr.heap.size G n k m q av cv y) hd 2 (by kernel_rfl))
          exact one_load _ _ rfl rfl _ _ e (cell_abides B0 hb) (by kernel_rfl) ⟨_, rfl, Below.refl _ _, rfl⟩
        · intro vs w' F hb hd hF hl
          have e := (hF 5).trans (look_out _ 5 _ _ (by kernel_rfl))
          exact one_field _ _ _ rfl rfl _ _ e _ (fun w => by kernel_rfl) ⟨_, rfl, Below.refl _ _, rfl⟩
        · intro vs w' F hb hd hF hl
          have e := ((hF 20).trans (look_at _ 20 4 _ _ (by kernel_rfl) (by kernel_rfl) hl)).trans (dep_of (Fact := F_kco wr.heap.size G n k m q av cv y) hd 4 (by kernel_rfl))
          exact one_load _ _ rfl rfl _ _ e (cell_abides B1 hb) (by kernel_rfl) ⟨_, rfl, Below.refl _ _, rfl⟩
        · intro vs w' F hb hd hF hl
          have e := (((hF 21).trans (look_at _ 21 5 _ _ (by kernel_rfl) (by kernel_rfl) hl)).trans (dep_of (Fact := F_kco wr.heap.size G n k m q av cv y) hd 5 (by kernel_rfl)))
          refine wpList_append_cells rfl _ _ 56 rfl w'.heap.size 55 (.agg #[.string ByteArray.empty, .int .i64 0, .int .i64 0]) 3 32 Try.underlying56 inf_fld3 rfl (by decide) (.slice none 0 0) 0 [] rfl (World.ownsRow_nil _ _ _ _) av m cv (fvals y.fields) e (by rw [fvals_len, HM.out]) (cells_flds (HI2.out.below FieldAt.abides hb)) (fvals_one _) (by unfold maxLen; omega) (by omega) (Nat.le_refl _) ?_
          intro v2 w2 hown hg hor
          have hsz := hb.size
          simp at hsz
          rw [List.nil_append, Nat.zero_add] at hown
          obtain ⟨a2, c2, rfl, hc1, hc2, hs2, hx2⟩ := flds_own HM.out.symm hown (flds_names HI2.out)
          exact ⟨_, rfl, (Below.refl _ _).grown hg (Nat.le_refl _) (fun g h => by cases h), a2, c2, rfl, fun x hx => by have := hx2 x hx; omega, own_lower hown (by omega)⟩
        · intro vs w' F hb hd hF hl
          obtain ⟨a2, c2, hv2, hr2⟩ := (dep_of (Fact := F_kco wr.heap.size G n k m q av cv y) hd 6 (by kernel_rfl))
          have e1 := (((hF 19).trans (look_at _ 19 3 _ _ (by kernel_rfl) (by kernel_rfl) hl)).trans (dep_of (Fact := F_kco wr.heap.size G n k m q av cv y) hd 3 (by kernel_rfl)))
          have e2 := ((hF 22).trans (look_at _ 22 6 _ _ (by kernel_rfl) (by kernel_rfl) hl)).trans hv2
          exact one_build _ _ rfl rfl #[(0, .string q), (1, .slice a2 m c2)] (parts2 e1 e2) (.agg #[.string q, .slice a2 m c2]) (fun w => by kernel_rfl) ⟨_, rfl, Below.refl _ _, a2, c2, rfl, hr2⟩
        · intro vs w' F hb hd hF hl
          have ex := (((hF 16).trans (look_at _ 16 0 _ _ (by kernel_rfl) (by kernel_rfl) hl)).trans (dep_of (Fact := F_kco wr.heap.size G n k m q av cv y) hd 0 (by kernel_rfl)))
          have ey := (((hF 17).trans (look_at _ 17 1 _ _ (by kernel_rfl) (by kernel_rfl) hl)).trans (dep_of (Fact := F_kco wr.heap.size G n k m q av cv y) hd 1 (by kernel_rfl)))
          exact one_index 24 _ _ rfl rfl (.slice (some ⟨G, 0, none⟩) n n) (.int .i64 k) (.pointer (some ⟨G, k * 2, none⟩)) ex ey (fun w => by clear hb hd hF hl ex ey; go_simp) ⟨_, rfl, Below.refl _ _, rfl⟩
      · intro vs W1 hl hb hI
        obtain ⟨a8, c8, i7, hx8, hi8⟩ := hI 7 (by omega)
        have i8 : vs.getD 8 undef = .pointer (some ⟨G, k * 2, none⟩) := hI 8 (by omega)
        obtain ⟨v0, v1, v2, v3, v4, v5, v6, v7, v8, v9, rfl⟩ := list10 hl
        replace i7 : v7 = .agg #[.string q, .slice a8 m c8] := i7
        replace i8 : v8 = .pointer (some ⟨G, k * 2, none⟩) := i8
        subst i7 i8
        have hblk1 := (HBLK2.out.below hb0).below hb
        obtain ⟨o1, ho1⟩ := hblk1.cell (k * 2) (by omega)
        obtain ⟨o2, ho2⟩ := hblk1.cell (k * 2 + 1) (by omega)
        have f1 := hblk1.frozen (k * 2)
        have f2 := hblk1.frozen (k * 2 + 1)
        have hbw : Below wr.heap.size wr W1 := hb0.trans (hb.mono (by simp))
        have hbn : Below W.heap.size W ((W1.setCell ⟨G, k * 2, none⟩ (.string q)).setCell ⟨G, k * 2 + 1, none⟩ (.slice a8 m c8)) := ((HB.out.trans (hbw.mono HB.out.size)).setCell (by rw [← HG.out]; exact Nat.le_refl _) _).setCell (by rw [← HG.out]; exact Nat.le_refl _) _
        have HBN := Lib.hid hbn
        have HBK := Lib.hid ((hblk1.set (k * 2) (.string q)).set (k * 2 + 1) (.slice a8 m c8))
        have hsz2 := hbw.size
        have hfo : FOwn W1 (G + 1) (.slice a8 m c8) y.fields := (FOwn.lower ⟨by rw [← HM.out]; exact hi8, flds_names (HI2.out)⟩ (by have := hgl; omega))
        have hatn : ∃ V : List Value, V.length = k + 1 ∧ (∀ j (h : j < l.length) (h' : j < V.length), KNew G ((W1.setCell ⟨G, k * 2, none⟩ (.string q)).setCell ⟨G, k * 2 + 1, none⟩ (.slice a8 m c8)) (j * 2) l[j] V[j]) ∧ ∀ i j (h : i < V.length) (h' : j < V.length), i ≠ j → ∀ g, V[i].ownBlock = some g → V[j].ownBlock ≠ some g := by
          obtain ⟨V, hV, hat, hdis⟩ := HAT.out
          have hlow : ∀ i (h : i < V.length) g, V[i].ownBlock = some g → g < wr.heap.size := fun i h g hg => ((hat i (by rw [HN.out]; omega) h).2.2.1.lt g hg).2
          have hnew : ∀ g, (Value.slice a8 m c8).ownBlock = some g → wr.heap.size < g := fun g hg => (own_lt hi8 g hg).1
          refine ⟨V ++ [.slice a8 m c8], by rw [List.length_append, hV]; rfl, fun j h h' => ?_, fun i j h h' hij g hg => ?_⟩
          · by_cases hjk : j < V.length
            · rw [List.getElem_append_left hjk]
              exact (((hat j h hjk).below hbw).far _ _ (by omega) (by omega)).far _ _ (by omega) (by omega)
            · rw [List.length_append] at h'
              have hjk2 : j = k := by have : [Value.slice a8 m c8].length = 1 := rfl; omega
              subst hjk2
              rw [List.getElem_append_right (by omega)]
              simp only [hV, Nat.sub_self, List.getElem_cons_zero]
              rw [← HY.out, HQ.out]
              exact KNew.new HNM.out ho1 ho2 hfo
          · have e1 : [Value.slice a8 m c8].length = 1 := rfl
            rw [List.length_append] at h h'
            by_cases hik : i < V.length
            · rw [List.getElem_append_left hik] at hg
              by_cases hjk : j < V.length
              · rw [List.getElem_append_left hjk]
                exact hdis i j hik hjk hij g hg
              · rw [List.getElem_append_right (by omega)]
                intro e
                have hj0 : j - V.length = 0 := by omega
                simp only [hj0, List.getElem_cons_zero] at e
                have := hlow i hik g hg
                have := hnew g e
                omega
            · rw [List.getElem_append_right (by omega)] at hg
              have hi0 : i - V.length = 0 := by omega
              simp only [hi0, List.getElem_cons_zero] at hg
              have hjk : j < V.length := by omega
              rw [List.getElem_append_left hjk]
              intro e
              have := hlow j hjk g e
              have := hnew g hg
              omega
        have HATN := Lib.hid hatn
        clear hI hl hb hbw hbn hblk1 hatn hi8 hx8 hfo hsz2 HI2 hb0 B0 B1
        simp only [fillAll, Act.put, List.setIfInBounds_toArray, List.set_cons_succ, List.set_cons_zero]
        go_wp2
        go_roundg (n - (k + 1))
        case measure => rw [G2.out]; omega
        case rel => exact ⟨k + 1, hlt, rfl, by go_num, HBK.out, HATN.out, HBN.out⟩
    · have hke : k = n := by omega
      have HK := Lib.hid hke
      clear hke
      go_wp2_with fail
      go_ret
      obtain ⟨V, hV, hat, hdis⟩ := HAT.out
      rw [← HG.out]
      refine ⟨⟨V, rfl, ⟨by rw [hV, HK.out, HN.out], ?_, rfl, fun i h h' => ⟨(hat i h h').2.2.1, (hat i h h').2.2.2⟩, hdis⟩⟩, by rw [HG.out]; exact HB.out⟩
      exact own_of_blk HBLK2.out HN.out (by rw [hV, HK.out, HN.out]) (by unfold maxLen; omega) (fun i h h' => ⟨(hat i h h').1, (hat i h h').2.1⟩)
end Go.Proofs.Ytpilpkbblkhnaaa
end
/- world.Copy: the copy is the call's own, row by row. By program (gen_wcopyo.py). -/
section
namespace Go.Proofs.Ytpilpkbblkhnaaa
open Go.ChangeShapes Go.WideShapes Go.ChangeAt Go.RowKit Go.Nm Go.Mem
set_option linter.unusedVariables false
/-- an item in the making, its components of the call's own -/
def ItemNewO (G S : Nat) (w : World) (i : Nat) (y : ItemV) (v : Value) : Prop := w.cell? ⟨G, i, none⟩ = some (.int .i64 y.n) ∧ w.cell? ⟨G, i + 1, none⟩ = some (.int .i64 y.gen) ∧ w.cell? ⟨G, i + 2, none⟩ = some v ∧ COwnS S w v y.comps
theorem ItemNewO.below {G S : Nat} {w w' : World} {i : Nat} {y : ItemV} {v : Value} (h : ItemNewO G S w i y v) (hb : Below w.heap.size w w') : ItemNewO G S w' i y v := by
  obtain ⟨h1, h2, h3, h4⟩ := h
  exact ⟨cell_abides h1 hb, cell_abides h2 hb, cell_abides h3 hb, h4.below hb⟩
theorem cown_set {lo G j : Nat} {w : World} {u v : Value} {l : List CompV} (h : COwnS lo w v l) (hl : G < lo) : COwnS lo (w.setCell ⟨G, j, none⟩ u) v l := h.grown (Dl.gb_set (Dl.gb_refl w (some G)) j u) (fun r hr => by injection hr with hr; omega)
theorem ItemNewO.far {G S : Nat} {w : World} {i : Nat} {y : ItemV} {u : Value} (hGS : G < S) (h : ItemNewO G S w i y u) (j : Nat) (v : Value) (n1 : j ≠ i) (n2 : j ≠ i + 1) (n3 : j ≠ i + 2) : ItemNewO G S (w.setCell ⟨G, j, none⟩ v) i y u := by
  obtain ⟨h1, h2, h3, h4⟩ := h
  exact ⟨by rw [cell_set_ne (fun e => n1 (by injection e))]; exact h1, by rw [cell_set_ne (fun e => n2 (by injection e))]; exact h2, by rw [cell_set_ne (fun e => n3 (by injection e))]; exact h3, cown_set h4 hGS⟩
theorem ItemNewO.new {G S : Nat} {w : World} {i : Nat} {y : ItemV} {v o1 o2 o3 : Value} (hGS : G < S) (h1 : w.cell? ⟨G, i, none⟩ = some o1) (h2 : w.cell? ⟨G, i + 1, none⟩ = some o2) (h3 : w.cell? ⟨G, i + 2, none⟩ = some o3) (hi : COwnS S w v y.comps) :
    ItemNewO G S (((w.setCell ⟨G, i, none⟩ (.int .i64 y.n)).setCell ⟨G, i + 1, none⟩ (.int .i64 y.gen)).setCell ⟨G, i + 2, none⟩ v) i y v := by
  have n1 : (⟨G, i + 1, none⟩ : Addr) ≠ ⟨G, i, none⟩ := fun e => by injection e with _ e; omega
  have n2 : (⟨G, i + 2, none⟩ : Addr) ≠ ⟨G, i, none⟩ := fun e => by injection e with _ e; omega
  have n3 : (⟨G, i + 2, none⟩ : Addr) ≠ ⟨G, i + 1, none⟩ := fun e => by injection e with _ e; omega
  refine ⟨?_, ?_, ?_, cown_set (cown_set (cown_set hi hGS) hGS) hGS⟩
  · rw [cell_set_ne n2, cell_set_ne n1]; exact cell_set_eq h1
  · rw [cell_set_ne n3]; exact cell_set_eq (u := o2) (by rw [cell_set_ne n1.symm]; exact h2)
  · exact cell_set_eq (u := o3) (by rw [cell_set_ne n3.symm, cell_set_ne n2.symm]; exact h3)
theorem COwnS.lt {lo : Nat} {w : World} {v : Value} {l : List CompV} (h : COwnS lo w v l) (g : Nat) (hg : v.ownBlock = some g) : lo ≤ g ∧ g < w.heap.size := by
  obtain ⟨U, _, h2, _⟩ := h
  exact own_lt h2 g hg
/-- a copy of a world: all of it the call's own -/
def WCopyPostO (y : WorldV) (nk ng ni : Nat) (W : World) (e : Ending) (w' : World) : Prop := (∃ ak vg G V, e = .returned (.agg #[.slice ak nk nk, vg, .slice (some ⟨G, 0, none⟩) ni ni]) ∧ OW w' W.heap.size y ak vg (.slice (some ⟨G, 0, none⟩) ni ni) V) ∧ Below W.heap.size W w'
def F_wco1 (WW : Nat) (ak : Option Addr) (nk ck : Nat) (ag : Option Addr) (ng cg : Nat) (ai : Option Addr) (ni ci : Nat) (y : WorldV) (jq : Nat) (v : Value) (w : World) : Prop :=
  match jq with
  | 0 => v = .pointer (some ⟨WW, 0, none⟩)
  | 1 => v = .slice ak nk ck
  | 2 => ∃ b V, v = .slice (some ⟨b, 0, none⟩) nk nk ∧ WW + 2 ≤ b ∧ OwnK w b (.slice (some ⟨b, 0, none⟩) nk nk) y.kinds V
  | 3 => v = .pointer (some ⟨WW, 1, none⟩)
  | 4 => v = .slice ag ng cg
  | 5 => ∃ u, v = u ∧ w.ownsRow WW 3 1 u ng (vints .i64 y.gens) ∧ (∀ g, u.ownBlock = some g → g < w.heap.size)
  | 6 => v = .pointer (some ⟨WW, 2, none⟩)
  | 7 => v = .slice ai ni ci
  | 8 => v = .int .i64 (ni : Int)
  | 9 => ∃ b, v = .slice (some ⟨b, 0, none⟩) ni ni ∧ WW + 2 ≤ b ∧ w.ownsRow WW 33 3 (.slice (some ⟨b, 0, none⟩) ni ni) ni (madeCells #[Value.int .i64 0, .int .i64 0, .slice none 0 0] (ni * 3)).toList
  | 10 => ∃ a V u b, v = .agg #[.slice (some ⟨a, 0, none⟩) nk nk, u, .slice (some ⟨b, 0, none⟩) ni ni] ∧ WW + 2 ≤ a ∧ OwnK w a (.slice (some ⟨a, 0, none⟩) nk nk) y.kinds V ∧ w.ownsRow WW 3 1 u ng (vints .i64 y.gens) ∧ (∀ g, u.ownBlock = some g → g < w.heap.size) ∧ WW + 2 ≤ b ∧ w.ownsRow WW 33 3 (.slice (some ⟨b, 0, none⟩) ni ni) ni (madeCells #[Value.int .i64 0, .int .i64 0, .slice none 0 0] (ni * 3)).toList
  | 11 => ∃ x, v = .pointer (some ⟨x, 0, none⟩) ∧ WW + 2 ≤ x ∧ x < w.heap.size ∧ w.heap[x]? = some (.cells #[.slice none 0 0, .slice none 0 0, .slice none 0 0] 27 (0, 0))
  | _ => True
theorem F_wco1_mono (WW : Nat) (ak : Option Addr) (nk ck : Nat) (ag : Option Addr) (ng cg : Nat) (ai : Option Addr) (ni ci : Nat) (y : WorldV) : Facts (F_wco1 WW ak nk ck ag ng cg ai ni ci y) := ⟨by
  intro jq v w w' h hb
  unfold F_wco1 at h ⊢
  split at h
  all_goals first
    | exact h
    | (obtain ⟨a, V, e, h0, h1⟩ := h; exact ⟨a, V, e, h0, h1.below hb⟩)
    | (obtain ⟨u, e, h1, h2⟩ := h; exact ⟨u, e, own_below h1 hb, fun g hg => Nat.lt_of_lt_of_le (h2 g hg) hb.size⟩)
    | (obtain ⟨b, e, h1, h2⟩ := h; exact ⟨b, e, h1, own_below h2 hb⟩)
    | (obtain ⟨a, V, u, b, e, h0, h1, h2, h3, h4, h5⟩ := h; exact ⟨a, V, u, b, e, h0, h1.below hb, own_below h2 hb, fun g hg => Nat.lt_of_lt_of_le (h3 g hg) hb.size, h4, own_below h5 hb⟩)
    | (obtain ⟨x, e, h1, h2, h3⟩ := h; exact ⟨x, e, h1, Nat.lt_of_lt_of_le h2 hb.size, heap_below h3 hb⟩)
    | trivial⟩
def F_wco5 (BB X G SS i ni : Nat) (kn kg : Int) (av : Option Addr) (nv cv : Nat) (it : ItemV) (jq : Nat) (v : Value) (w : World) : Prop :=
  match jq with
  | 0 => v = .pointer (some ⟨X, 2, none⟩)
  | 1 => v = .slice (some ⟨G, 0, none⟩) ni ni
  | 2 => v = .int .i64 i
  | 3 => v = .pointer (some ⟨BB, 0, none⟩)
  | 4 => v = .agg #[.int .i64 kn, .int .i64 kg]
  | 5 => v = .pointer (some ⟨BB, 2, none⟩)
  | 6 => v = .slice av nv cv
  | 7 => ∃ b, v = .slice (some ⟨b, 0, none⟩) nv nv ∧ BB ≤ b ∧ COwnS BB w (.slice (some ⟨b, 0, none⟩) nv nv) it.comps
  | 8 => ∃ b, v = .agg #[.int .i64 kn, .int .i64 kg, .slice (some ⟨b, 0, none⟩) nv nv] ∧ BB ≤ b ∧ COwnS BB w (.slice (some ⟨b, 0, none⟩) nv nv) it.comps
  | 9 => v = .pointer (some ⟨G, i * 3, none⟩)
  | _ => True
theorem F_wco5_mono (BB X G SS i ni : Nat) (kn kg : Int) (av : Option Addr) (nv cv : Nat) (it : ItemV) : Facts (F_wco5 BB X G SS i ni kn kg av nv cv it) := ⟨by
  intro jq v w w' h hb
  unfold F_wco5 at h ⊢
  split at h
  all_goals first
    | exact h
    | (obtain ⟨a, e, h0, h1⟩ := h; exact ⟨a, e, h0, h1.below hb⟩)
    | trivial⟩

set_option maxHeartbeats 16000000 in
set_option maxRecDepth 20000 in
theorem copy_worldO (y : WorldV) (ak : Option Addr) (nk ck : Nat) (ag : Option Addr) (ng cg : Nat) (ai : Option Addr) (ni ci : Nat) (hnk : nk = y.kinds.length) (hng : ng = y.gens.length) (hni : ni = y.items.length) (W : World)
    (hzk : SlAt 2 KindAt W ak y.kinds) (hzg : IntsAt .i64 W ag y.gens) (hzi : SlAt 3 ItemAt W ai y.items) (s1 : nk ≤ 1048576) (s2 : ng ≤ 1048576) (s3 : ni ≤ 1048576)
    (s4 : ∀ x ∈ y.items, x.comps.length ≤ 1048576 ∧ ∀ c ∈ x.comps, c.vals.length ≤ 1048576) (hkf : ∀ k ∈ y.kinds, k.fields.length ≤ 1048576) :
    Calls Try.prog 31 #[.agg #[.slice ak nk ck, .slice ag ng cg, .slice ai ni ci]] W (WCopyPostO y nk ng ni W) := by
  have CK := Lib.hid (fun w' (hb : Below W.heap.size W w') => kind_CopyO y.kinds ak nk ck hnk.symm (by omega) (fun k hk => by have := hkf k hk; omega) w' (hzk.below KindAt.abides hb))
  have CG := Lib.hid (fun w' (hb : Below W.heap.size W w') => clone_intsN y.gens ag ng cg hng.symm (by omega) w' (hzg.below hb))
  have NK := Lib.hid hnk
  have NG := Lib.hid hng
  have NI := Lib.hid hni
  have ZI := Lib.hid hzi
  have S4 := Lib.hid s4
  obtain ⟨o1, ho1⟩ : ∃ o : Obj, o = .cells #[.slice ak nk ck, .slice ag ng cg, .slice ai ni ci] 27 (0, 0) := ⟨_, rfl⟩
  obtain ⟨o2, ho2⟩ : ∃ o : Obj, o = .cells #[.slice none 0 0, .slice none 0 0, .slice none 0 0] 27 (0, 0) := ⟨_, rfl⟩
  have hw1 := row_first W o1 o2
  have hw2 := row_second W o1 o2
  have hb2 := ((Below.refl W.heap.size W).alloc (Nat.le_refl _) o1).alloc (by simp) o2
  rw [ho1, ho2] at hw1 hw2 hb2
  have HW1 := Lib.hid hw1
  have HW2 := Lib.hid hw2
  have HB2 := Lib.hid hb2
  clear hnk hng hni hzk hzg hzi s4 ho1 ho2 o1 o2 hw1 hw2 hb2 hkf
  obtain ⟨i0, hi0, hz0, hz1, hz2⟩ := info_parts inf_item
  have I0 := Lib.hid (And.intro hi0 (And.intro hz0 (And.intro hz1 hz2)))
  clear hi0 hz0 hz1 hz2
  go_enter Try.func31, Try.ntmps31
  go_wp2_with fail
  have E0 := Lib.hid (cell_of_row _ _ 0 _ _ _ HW1.out)
  have E1 := Lib.hid (cell_of_row _ _ 1 _ _ _ HW1.out)
  have E2 := Lib.hid (cell_of_row _ _ 2 _ _ _ HW1.out)
  refine wp_region_facts_t rfl 12 (by kernel_rfl) (F_wco1 W.heap.size ak nk ck ag ng cg ai ni ci y) (F_wco1_mono W.heap.size ak nk ck ag ng cg ai ni ci y) ?_ ?_
  · refine ⟨?_, ?_, ?_, ?_, ?_, ?_, ?_, ?_, ?_, ?_, ?_, ?_, trivial⟩
    · intro vs w' F hb hd hF hl hT
      have e := (hF 1).trans (look_out _ 1 _ _ (by kernel_rfl))
      exact one_field _ _ _ rfl rfl _ _ e (0) (fun w => by kernel_rfl) ⟨_, rfl, Below.refl _ _, rfl⟩
    · intro vs w' F hb hd hF hl hT
      have e := ((hF 6).trans (look_at _ 6 0 _ _ (by kernel_rfl) (by kernel_rfl) hl)).trans (dep_of (Fact := F_wco1 W.heap.size ak nk ck ag ng cg ai ni ci y) hd 0 (by kernel_rfl))
      exact one_load _ _ rfl rfl _ _ e (cell_abides E0.out hb) (by kernel_rfl) ⟨_, rfl, Below.refl _ _, rfl⟩
    · intro vs w' F hb hd hF hl hT
      have ea := (((hF 7).trans (look_at _ 7 1 _ _ (by kernel_rfl) (by kernel_rfl) hl)).trans (dep_of (Fact := F_wco1 W.heap.size ak nk ck ag ng cg ai ni ci y) hd 1 (by kernel_rfl)))
      refine one_call _ _ rfl rfl (enters_of Try.func41 (by kernel_rfl) rfl) #[.slice ak nk ck] (eval1 ea) ?_
      refine (CK.out w' (HB2.out.trans (hb.mono (by simp; omega)))).mono ?_
      rintro e2 w2 ⟨⟨V2, rfl, hs2⟩, hb2⟩
      have hsz := hb.size
      simp at hsz
      exact ⟨_, rfl, _, rfl, hb2, _, V2, rfl, by omega, hs2⟩
    · intro vs w' F hb hd hF hl hT
      have e := (hF 1).trans (look_out _ 1 _ _ (by kernel_rfl))
      exact one_field _ _ _ rfl rfl _ _ e (1) (fun w => by kernel_rfl) ⟨_, rfl, Below.refl _ _, rfl⟩
    · intro vs w' F hb hd hF hl hT
      have e := ((hF 9).trans (look_at _ 9 3 _ _ (by kernel_rfl) (by kernel_rfl) hl)).trans (dep_of (Fact := F_wco1 W.heap.size ak nk ck ag ng cg ai ni ci y) hd 3 (by kernel_rfl))
      exact one_load _ _ rfl rfl _ _ e (cell_abides E1.out hb) (by kernel_rfl) ⟨_, rfl, Below.refl _ _, rfl⟩
    · intro vs w' F hb hd hF hl hT
      have ea := (((hF 10).trans (look_at _ 10 4 _ _ (by kernel_rfl) (by kernel_rfl) hl)).trans (dep_of (Fact := F_wco1 W.heap.size ak nk ck ag ng cg ai ni ci y) hd 4 (by kernel_rfl)))
      refine one_call _ _ rfl rfl (enters_of Try.func58 (by kernel_rfl) rfl) #[.slice ag ng cg] (eval1 ea) ?_
      refine (CG.out w' (HB2.out.trans (hb.mono (by simp; omega)))).mono ?_
      rintro e2 w2 ⟨u2, rfl, hs2, hb2, hns⟩
      have hsz := hb.size
      simp at hsz
      exact ⟨_, rfl, _, rfl, hb2, u2, rfl, own_low hs2 (by omega), fun g hg => (own_lt hs2 g hg).2⟩
    · intro vs w' F hb hd hF hl hT
      have e := (hF 1).trans (look_out _ 1 _ _ (by kernel_rfl))
      exact one_field _ _ _ rfl rfl _ _ e (2) (fun w => by kernel_rfl) ⟨_, rfl, Below.refl _ _, rfl⟩
    · intro vs w' F hb hd hF hl hT
      have e := ((hF 12).trans (look_at _ 12 6 _ _ (by kernel_rfl) (by kernel_rfl) hl)).trans (dep_of (Fact := F_wco1 W.heap.size ak nk ck ag ng cg ai ni ci y) hd 6 (by kernel_rfl))
      exact one_load _ _ rfl rfl _ _ e (cell_abides E2.out hb) (by kernel_rfl) ⟨_, rfl, Below.refl _ _, rfl⟩
    · intro vs w' F hb hd hF hl hT
      have e := ((hF 13).trans (look_at _ 13 7 _ _ (by kernel_rfl) (by kernel_rfl) hl)).trans (dep_of (Fact := F_wco1 W.heap.size ak nk ck ag ng cg ai ni ci y) hd 7 (by kernel_rfl))
      exact rg_len _ 25 33 rfl rfl Try.underlying25 ai (ni) (ci) e ⟨_, rfl, Below.refl _ _, rfl⟩
    · intro vs w' F hb hd hF hl hT
      have ea := (((hF 14).trans (look_at _ 14 8 _ _ (by kernel_rfl) (by kernel_rfl) hl)).trans (dep_of (Fact := F_wco1 W.heap.size ak nk ck ag ng cg ai ni ci y) hd 8 (by kernel_rfl)))
      have hsz := hb.size
      simp at hsz
      refine wpList_make_full _ rfl _ _ _ rfl W.heap.size 33 i0 _ 3 Try.underlying25 I0.out.1 I0.out.2.1 I0.out.2.2.1 .i64 .i64 (ni : Int) (ni : Int) ni ea ea rfl rfl (by rw [I0.out.2.2.2]; omega) (by unfold maxLen; omega) (by omega) ?_
      intro w2 hown2 hgr2
      exact ⟨_, rfl, ⟨hgr2.os, hgr2.tape, hgr2.output, hgr2.size, fun k hk => hgr2.block k hk (by simp)⟩, _, rfl, by omega, hown2⟩
    · intro vs w' F hb hd hF hl hT
      obtain ⟨a2, V2, e2, hw2, hs2⟩ := (dep_of (Fact := F_wco1 W.heap.size ak nk ck ag ng cg ai ni ci y) hd 2 (by kernel_rfl))
      obtain ⟨u2, e5, hs5, hl5⟩ := (dep_of (Fact := F_wco1 W.heap.size ak nk ck ag ng cg ai ni ci y) hd 5 (by kernel_rfl))
      obtain ⟨b2, e9, hw9, hs9⟩ := (dep_of (Fact := F_wco1 W.heap.size ak nk ck ag ng cg ai ni ci y) hd 9 (by kernel_rfl))
      have g2 := ((hF 8).trans (look_at _ 8 2 _ _ (by kernel_rfl) (by kernel_rfl) hl)).trans e2
      have g5 := ((hF 11).trans (look_at _ 11 5 _ _ (by kernel_rfl) (by kernel_rfl) hl)).trans e5
      have g9 := ((hF 15).trans (look_at _ 15 9 _ _ (by kernel_rfl) (by kernel_rfl) hl)).trans e9
      obtain ⟨sa, sc, rfl⟩ := own_sl hs5
      exact one_build _ _ rfl rfl #[(0, .slice (some ⟨a2, 0, none⟩) nk nk), (1, .slice sa ng sc), (2, .slice (some ⟨b2, 0, none⟩) ni ni)] (parts3 g2 g5 g9) (.agg #[.slice (some ⟨a2, 0, none⟩) nk nk, .slice sa ng sc, .slice (some ⟨b2, 0, none⟩) ni ni]) (fun w => by kernel_rfl) ⟨_, rfl, Below.refl _ _, a2, V2, _, b2, rfl, hw2, hs2, hs5, hl5, hw9, hs9⟩
    · intro vs w' F hb hd hF hl hT
      have hsz := hb.size
      simp at hsz
      refine one_alloc_agg _ rfl rfl (.agg #[.slice none 0 0, .slice none 0 0, .slice none 0 0]) #[.slice none 0 0, .slice none 0 0, .slice none 0 0] (by kernel_rfl) rfl ?_
      exact ⟨_, rfl, (Below.refl _ _).alloc (Nat.le_refl _) _, _, rfl, by omega, by simp, heap_alloc_new _ _⟩
  · intro vs8 W8 hl hb hI
    obtain ⟨GK, VK, vg, G, hv10, hWK, hk, hg, hgl, hWG, hrow⟩ := hI 10 (by omega)
    obtain ⟨X, hv11, hWX, hXl, hX⟩ := hI 11 (by omega)
    obtain ⟨sa, sc, rfl⟩ := own_sl hg
    obtain ⟨x0, x1, x2, x3, x4, x5, x6, x7, x8, x9, x10, x11, x12, hvs⟩ := list13 hl
    subst hvs
    replace hv10 : x10 = .agg #[.slice (some ⟨GK, 0, none⟩) nk nk, .slice sa ng sc, .slice (some ⟨G, 0, none⟩) ni ni] := hv10
    replace hv11 : x11 = .pointer (some ⟨X, 0, none⟩) := hv11
    subst hv10 hv11
    have hR8 := heap_below HW2.out hb
    have hP8 := heap_below HW1.out hb
    have hbW8 := HB2.out.trans (hb.mono (by simp; omega))
    obtain ⟨cg0, hG8, hGs, hGn⟩ := made_row hrow
    have hGX : G ≠ X := by
      intro e
      subst e
      rw [hG8] at hX
      injection hX with hX
      injection hX with _ h2 _
      exact absurd h2 (by decide)
    have HG8 := Lib.hid hG8
    have HX := Lib.hid hX
    have HR8 := Lib.hid hR8
    have HP8 := Lib.hid hP8
    have HBW8 := Lib.hid hbW8
    have HGS := Lib.hid hGs
    have HGN := Lib.hid hGn
    have HK := Lib.hid hk
    have HWK := Lib.hid hWK
    have HGG := Lib.hid hg
    have HGL := Lib.hid hgl
    clear hI hl hb hrow hG8 hX hP8 hR8 hbW8 hGs hGn hk hg hgl hWK HW1 HW2 HB2 E0 E1 E2 CK CG
    simp only [fillAll, Act.put, List.setIfInBounds_toArray, List.set_cons_succ, List.set_cons_zero, List.drop_succ_cons, List.drop_zero]
    go_wp2_with (refine wpList_store_rowP rfl 27 (.tmp 3) (.tmp 16) rfl X #[.slice (some ⟨GK, 0, none⟩) nk nk, .slice sa ng sc, .slice (some ⟨G, 0, none⟩) ni ni] rfl rfl _ _ HX.out (by kernel_rfl) rfl (ones3 _ _ _ rfl rfl rfl) ?_; intro W9 hput; have HPUT := Lib.hid hput; have x2 : W9.cell? ⟨X, 2, none⟩ = some (.slice (some ⟨G, 0, none⟩) ni ni) := cell_of_row _ _ 2 _ _ _ hput.here; have y2 : W9.cell? ⟨W.heap.size, 2, none⟩ = some (.slice ai ni ci) := cell_of_row _ _ 2 _ _ _ ((hput.else_ _ (by omega)).trans HP8.out); clear hput)
    have hput := HPUT.out
    have hg89 : W8.grownBy W9 (some X) := ⟨hput.os, hput.tape, hput.output, by rw [hput.size]; exact Nat.le_refl _, fun k hk hne => hput.else_ k (fun e => hne (by rw [e]))⟩
    have hP9 := (hput.else_ _ (by omega)).trans HP8.out
    have hR9 := (hput.else_ _ (by omega)).trans HR8.out
    have hG9 := (hput.else_ _ hGX).trans HG8.out
    have hX9 := hput.here
    have hk9 := HK.out.other HX.out (by decide) (by decide) hg89
    have hg9 := own_gb HGG.out HX.out (by decide) hg89
    have hbW9 := HBW8.out.trans (hput.below (by omega))
    have hs9 := hput.size
    have hGlt := lt_of_heap hG9
    have HP9 := Lib.hid hP9
    have HR9 := Lib.hid hR9
    have HG9 := Lib.hid hG9
    have HX9 := Lib.hid hX9
    have HK9 := Lib.hid hk9
    have HGG9 := Lib.hid hg9
    have HBW9 := Lib.hid hbW9
    have HGL9 := Lib.hid (show ∀ g, (Value.slice sa ng sc).ownBlock = some g → g < W9.heap.size from fun g h => by rw [hs9]; exact HGL.out g h)
    have HBLK := Lib.hid (show Blk W9 G 33 (ni * 3) from ⟨_, hG9, HGS.out⟩)
    clear hput hg89 hP9 hR9 hG9 hX9 hk9 hg9 hbW9 hs9 HG8 HX HR8 HP8 HBW8 HK HGG HGL HPUT
    go_loopg [20, 4, 5] ni (fun gk v20 _ _ wx => ∃ i : Nat, i ≤ ni ∧ gk = ni - i ∧ v20 = .int .i64 i ∧ Blk wx G 33 (ni * 3) ∧ (∃ V : List Value, V.length = i ∧ (∀ j (h : j < y.items.length) (h' : j < V.length), ItemNewO G W9.heap.size wx (j * 3) y.items[j] V[j]) ∧ ∀ a b (h : a < V.length) (h' : b < V.length), a ≠ b → ∀ g, V[a].ownBlock = some g → V[b].ownBlock ≠ some g) ∧ W9.grownBy wx (some G))
    case atStart => exact ⟨0, Nat.zero_le _, rfl, rfl, HBLK.out, ⟨[], rfl, fun j h h' => absurd h' (Nat.not_lt_zero _), fun i j h => absurd h (Nat.not_lt_zero _)⟩, World.grownBy.refl _ _⟩
    case round =>
      clear HBLK x2 y2
      obtain ⟨i, i1, i2, rfl, hblk, hat, hgr⟩ := hrel
      have I2 := Lib.hid i2
      have HAT := Lib.hid hat
      have HBLK := Lib.hid hblk
      have HGR := Lib.hid hgr
      have hbr : Below W.heap.size W wr := HBW9.out.grown hgr HBW9.out.size (fun r h => by injection h with h; omega)
      have HBR := Lib.hid hbr
      have hszr := hgr.size
      have x2 := cell_gb1 (cell_of_row _ _ 2 _ _ _ HX9.out) hgr (show X ≠ G from fun e => hGX e.symm)
      clear i2 hat hblk hgr
      by_cases hi : i < ni
      · obtain ⟨x, rfl, _, _⟩ := ZI.out (by rw [← NI.out]; omega)
        obtain ⟨xb, xo, rfl, av, cv, hcl, hco⟩ := item_cells (ZI.out.below ItemAt.abides hbr) i (by rw [← NI.out]; exact hi)
        have hsm := S4.out _ (List.getElem_mem (by rw [← NI.out]; exact hi) : y.items[i]'(by rw [← NI.out]; exact hi) ∈ y.items)
        obtain ⟨it, hitd⟩ : ∃ it, it = y.items[i]'(by rw [← NI.out]; exact hi) := ⟨_, rfl⟩
        rw [← hitd] at hcl hco hsm
        obtain ⟨nv, hnv⟩ : ∃ nv, nv = it.comps.length := ⟨_, rfl⟩
        rw [← hnv] at hcl hsm
        obtain ⟨kn, hkn⟩ : ∃ kn, kn = it.n := ⟨_, rfl⟩
        obtain ⟨kg, hkg⟩ : ∃ kg, kg = it.gen := ⟨_, rfl⟩
        rw [← hkn, ← hkg] at hcl
        have e0 := hcl.at 0 (by simp)
        have e1 := hcl.at 1 (by simp)
        have e2 := hcl.at 2 (by simp)
        simp only [List.getElem_cons_zero, List.getElem_cons_succ, Nat.add_zero] at e0 e1 e2
        have hro := new_row wr #[.int .i64 kn, .int .i64 kg, .slice av nv cv] 33
        have q0 := hro.at 0 (by simp)
        have q1 := hro.at 1 (by simp)
        have q2 := hro.at 2 (by simp)
        simp only [List.getElem_cons_zero, List.getElem_cons_succ, Nat.zero_add] at q0 q1 q2
        have hqr : CellsK (wr.alloc (.cells #[.int .i64 kn, .int .i64 kg, .slice av nv cv] 33 (0, 0))) wr.heap.size 0 [.int .i64 kn, .int .i64 kg] := fun j u hu => by
          match j with
          | 0 => cases hu; exact q0
          | 1 => cases hu; exact q1
          | j + 2 => simp at hu
        have hbA : Below wr.heap.size wr (wr.alloc (.cells #[.int .i64 kn, .int .i64 kg, .slice av nv cv] 33 (0, 0))) := (Below.refl _ _).alloc (Nat.le_refl _) _
        have CC := Lib.hid (fun w' hb => copy_compsO it.comps av nv cv hnv.symm hsm.1 hsm.2 w' (SlAt.below CompAt.abides (hco.below CompAt.abides hbA) hb))
        have Q0 := Lib.hid q0
        have Q1 := Lib.hid q1
        have Q2 := Lib.hid q2
        have QR := Lib.hid hqr
        have X2 := Lib.hid (cell_abides x2 hbA)
        have HIT := Lib.hid hitd
        have HKN := Lib.hid hkn
        have HKG := Lib.hid hkg
        have HNV := Lib.hid hnv
        have HBA := Lib.hid hbA
        clear hcl hco hsm hitd hnv hkn hkg hro q0 q1 q2 hqr hbA hbr
        go_wp2_with fail
        refine wp_region_facts_t rfl 10 (by kernel_rfl) (F_wco5 wr.heap.size X G W9.heap.size i ni kn kg av nv cv it) (F_wco5_mono wr.heap.size X G W9.heap.size i ni kn kg av nv cv it) ?_ ?_
        · refine ⟨?_, ?_, ?_, ?_, ?_, ?_, ?_, ?_, ?_, ?_, trivial⟩
          · intro vs w' F hb hd hF hl hT
            have e := (hF 3).trans (look_out _ 3 _ _ (by kernel_rfl))
            exact one_field _ _ _ rfl rfl _ _ e (2) (fun w => by kernel_rfl) ⟨_, rfl, Below.refl _ _, rfl⟩
          · intro vs w' F hb hd hF hl hT
            have e := ((hF 25).trans (look_at _ 25 0 _ _ (by kernel_rfl) (by kernel_rfl) hl)).trans (dep_of (Fact := F_wco5 wr.heap.size X G W9.heap.size i ni kn kg av nv cv it) hd 0 (by kernel_rfl))
            exact one_load _ _ rfl rfl _ _ e (cell_abides X2.out hb) (by kernel_rfl) ⟨_, rfl, Below.refl _ _, rfl⟩
          · intro vs w' F hb hd hF hl hT
            have e := (hF 4).trans (look_out _ 4 _ _ (by kernel_rfl))
            exact one_move _ rfl (by first | exact Or.inl rfl | exact Or.inr rfl) ⟨_, rfl, Below.refl _ _, e⟩
          · intro vs w' F hb hd hF hl hT
            have e := (hF 5).trans (look_out _ 5 _ _ (by kernel_rfl))
            exact one_field _ _ _ rfl rfl _ _ e (0) (fun w => by kernel_rfl) ⟨_, rfl, Below.refl _ _, rfl⟩
          · intro vs w' F hb hd hF hl hT
            have e := ((hF 28).trans (look_at _ 28 3 _ _ (by kernel_rfl) (by kernel_rfl) hl)).trans (dep_of (Fact := F_wco5 wr.heap.size X G W9.heap.size i ni kn kg av nv cv it) hd 3 (by kernel_rfl))
            exact rg_load 30 _ rfl rfl (wr.heap.size) (0) [.int .i64 kn, .int .i64 kg] e (QR.out.below hb) _ Try.underlying30 rfl (by kernel_rfl) ⟨_, rfl, Below.refl _ _, rfl⟩
          · intro vs w' F hb hd hF hl hT
            have e := (hF 5).trans (look_out _ 5 _ _ (by kernel_rfl))
            exact one_field _ _ _ rfl rfl _ _ e (2) (fun w => by kernel_rfl) ⟨_, rfl, Below.refl _ _, rfl⟩
          · intro vs w' F hb hd hF hl hT
            have e := ((hF 30).trans (look_at _ 30 5 _ _ (by kernel_rfl) (by kernel_rfl) hl)).trans (dep_of (Fact := F_wco5 wr.heap.size X G W9.heap.size i ni kn kg av nv cv it) hd 5 (by kernel_rfl))
            exact one_load _ _ rfl rfl _ _ e (cell_abides Q2.out hb) (by kernel_rfl) ⟨_, rfl, Below.refl _ _, rfl⟩
          · intro vs w' F hb hd hF hl hT
            have ea := (((hF 31).trans (look_at _ 31 6 _ _ (by kernel_rfl) (by kernel_rfl) hl)).trans (dep_of (Fact := F_wco5 wr.heap.size X G W9.heap.size i ni kn kg av nv cv it) hd 6 (by kernel_rfl)))
            refine one_call _ _ rfl rfl (enters_of Try.func59 (by kernel_rfl) rfl) #[.slice av nv cv] (eval1 ea) ?_
            have hsz := hb.size
            simp at hsz
            refine (CC.out w' hb).mono ?_
            rintro e2 w2 ⟨⟨rfl, hs2⟩, hb2⟩
            exact ⟨_, rfl, _, rfl, hb2, _, rfl, by omega, hs2.lower (by omega)⟩
          · intro vs w' F hb hd hF hl hT
            obtain ⟨a2, e7, hs7, hs2⟩ := (dep_of (Fact := F_wco5 wr.heap.size X G W9.heap.size i ni kn kg av nv cv it) hd 7 (by kernel_rfl))
            have g4 := (((hF 29).trans (look_at _ 29 4 _ _ (by kernel_rfl) (by kernel_rfl) hl)).trans (dep_of (Fact := F_wco5 wr.heap.size X G W9.heap.size i ni kn kg av nv cv it) hd 4 (by kernel_rfl)))
            have g7 := ((hF 32).trans (look_at _ 32 7 _ _ (by kernel_rfl) (by kernel_rfl) hl)).trans e7
            exact one_build _ _ rfl rfl #[(0, .agg #[.int .i64 kn, .int .i64 kg]), (1, .slice (some ⟨a2, 0, none⟩) nv nv)] (parts2 g4 g7) (.agg #[.int .i64 kn, .int .i64 kg, .slice (some ⟨a2, 0, none⟩) nv nv]) (fun w => by kernel_rfl) ⟨_, rfl, Below.refl _ _, a2, rfl, hs7, hs2⟩
          · intro vs w' F hb hd hF hl hT
            have ex := ((hF 26).trans (look_at _ 26 1 _ _ (by kernel_rfl) (by kernel_rfl) hl)).trans (dep_of (Fact := F_wco5 wr.heap.size X G W9.heap.size i ni kn kg av nv cv it) hd 1 (by kernel_rfl))
            have ey := ((hF 27).trans (look_at _ 27 2 _ _ (by kernel_rfl) (by kernel_rfl) hl)).trans (dep_of (Fact := F_wco5 wr.heap.size X G W9.heap.size i ni kn kg av nv cv it) hd 2 (by kernel_rfl))
            exact one_index 25 _ _ rfl rfl (.slice (some ⟨G, 0, none⟩) ni ni) (.int .i64 i) (.pointer (some ⟨G, i * 3, none⟩)) ex ey (fun w => by have h := rg_idx Try.underlying25 (show (Try.prog.info? 33).map (·.size) = some 3 by kernel_rfl) (G) (0) (ni) (ni) (i) (by omega) w; rw [Nat.zero_add] at h; exact h) ⟨_, rfl, Below.refl _ _, rfl⟩
        · intro vs8 W8 hl hb hI
          obtain ⟨b8, hv8, hb8, hup⟩ := hI 8 (by omega)
          have hv9 : vs8.getD 9 undef = .pointer (some ⟨G, i * 3, none⟩) := hI 9 (by omega)
          obtain ⟨z0, z1, z2, z3, z4, z5, z6, z7, z8, z9, z10, hvs⟩ := list11 hl
          subst hvs
          replace hv8 : z8 = .agg #[.int .i64 kn, .int .i64 kg, .slice (some ⟨b8, 0, none⟩) nv nv] := hv8
          replace hv9 : z9 = .pointer (some ⟨G, i * 3, none⟩) := hv9
          subst hv8 hv9
          have hbw := HBA.out.trans (hb.mono (by simp))
          have hblk1 := HBLK.out.below hbw
          obtain ⟨o1, ho1⟩ := hblk1.cell (i * 3) (by omega)
          obtain ⟨o2, ho2⟩ := hblk1.cell (i * 3 + 1) (by omega)
          obtain ⟨o3, ho3⟩ := hblk1.cell (i * 3 + 2) (by omega)
          have f1 := hblk1.frozen (i * 3)
          have f2 := hblk1.frozen (i * 3 + 1)
          have f3 := hblk1.frozen (i * 3 + 2)
          have HBN := Lib.hid (gb_set (gb_set (gb_set (gb_below HGR.out hbw) (i * 3) (.int .i64 kn)) (i * 3 + 1) (.int .i64 kg)) (i * 3 + 2) (.slice (some ⟨b8, 0, none⟩) nv nv))
          have HBK := Lib.hid (((hblk1.set (i * 3) (.int .i64 kn)).set (i * 3 + 1) (.int .i64 kg)).set (i * 3 + 2) (.slice (some ⟨b8, 0, none⟩) nv nv))
          have hatn : ∃ V : List Value, V.length = i + 1 ∧ (∀ j (h : j < y.items.length) (h' : j < V.length), ItemNewO G W9.heap.size (((W8.setCell ⟨G, i * 3, none⟩ (.int .i64 kn)).setCell ⟨G, i * 3 + 1, none⟩ (.int .i64 kg)).setCell ⟨G, i * 3 + 2, none⟩ (.slice (some ⟨b8, 0, none⟩) nv nv)) (j * 3) y.items[j] V[j]) ∧ ∀ a b (h : a < V.length) (h' : b < V.length), a ≠ b → ∀ g, V[a].ownBlock = some g → V[b].ownBlock ≠ some g := by
            obtain ⟨V, hV, hat, hdis⟩ := HAT.out
            have hlow : ∀ i (h : i < V.length) g, V[i].ownBlock = some g → g < wr.heap.size := fun i h g hg => ((hat i (by rw [← NI.out]; omega) h).2.2.2.lt g hg).2
            have hnew : ∀ g, (Value.slice (some ⟨b8, 0, none⟩) nv nv).ownBlock = some g → wr.heap.size ≤ g := fun g hg => by injection hg with hg; have hg : b8 = g := hg; omega
            refine ⟨V ++ [.slice (some ⟨b8, 0, none⟩) nv nv], by rw [List.length_append, hV]; rfl, fun j h h' => ?_, fun a b h h' hab g hg => ?_⟩
            · by_cases hjk : j < V.length
              · rw [List.getElem_append_left hjk]
                exact ((((hat j h hjk).below hbw).far hGlt (i * 3) _ (by omega) (by omega) (by omega)).far hGlt (i * 3 + 1) _ (by omega) (by omega) (by omega)).far hGlt (i * 3 + 2) _ (by omega) (by omega) (by omega)
              · rw [List.length_append] at h'
                have hjk2 : j = i := by have : [Value.slice (some ⟨b8, 0, none⟩) nv nv].length = 1 := rfl; omega
                subst hjk2
                rw [List.getElem_append_right (by omega)]
                simp only [hV, Nat.sub_self, List.getElem_cons_zero]
                rw [← HIT.out, HKN.out, HKG.out]
                exact ItemNewO.new hGlt ho1 ho2 ho3 (hup.lower hszr)
            · have e1 : [Value.slice (some ⟨b8, 0, none⟩) nv nv].length = 1 := rfl
              rw [List.length_append] at h h'
              by_cases hik : a < V.length
              · rw [List.getElem_append_left hik] at hg
                by_cases hjk : b < V.length
                · rw [List.getElem_append_left hjk]
                  exact hdis a b hik hjk hab g hg
                · rw [List.getElem_append_right (by omega)]
                  intro e
                  have hj0 : b - V.length = 0 := by omega
                  simp only [hj0, List.getElem_cons_zero] at e
                  have := hlow a hik g hg
                  have := hnew g e
                  omega
              · rw [List.getElem_append_right (by omega)] at hg
                have hi0 : a - V.length = 0 := by omega
                simp only [hi0, List.getElem_cons_zero] at hg
                have hjk : b < V.length := by omega
                rw [List.getElem_append_left hjk]
                intro e
                have := hlow b hjk g e
                have := hnew g hg
                omega
          have HATN := Lib.hid hatn
          clear hI hl hb hbw hblk1 hatn hup CC Q0 Q1 Q2 QR X2 x2 e0 e1 e2
          simp only [fillAll, Act.put, List.setIfInBounds_toArray, List.set_cons_succ, List.set_cons_zero, List.drop_succ_cons, List.drop_zero]
          go_wp2
          go_roundg (ni - (i + 1))
          case measure => rw [I2.out]; omega
          case rel => exact ⟨i + 1, hi, rfl, by go_num, HBK.out, HATN.out, HBN.out⟩
      · obtain rfl : ni = i := by omega
        have hgr := HGR.out
        have HGRE := Lib.hid hgr
        have hX10 := (hgr.block _ (lt_of_heap HX9.out) (fun e => hGX (by injection e with e; exact e.symm))).trans HX9.out
        have hR10 := (hgr.block _ (lt_of_heap HR9.out) (fun e => by injection e with e; omega)).trans HR9.out
        have hk10 := HK9.out.other HG9.out (by decide) (by decide) hgr
        have hg10 := own_gb HGG9.out HG9.out (by decide) hgr
        have e0 := cell_of_row _ _ 0 _ _ _ hX10
        have e1 := cell_of_row _ _ 1 _ _ _ hX10
        have e2 := cell_of_row _ _ 2 _ _ _ hX10
        have HX10 := Lib.hid hX10
        have HR10 := Lib.hid hR10
        have HK10 := Lib.hid hk10
        have HG10 := Lib.hid hg10
        clear hgr hX10 hR10 hk10 hg10 x2
        go_wp2_with (refine wpList_store_rowP rfl 27 (.tmp 2) (.tmp 36) rfl (W.heap.size + 1) #[.slice (some ⟨GK, 0, none⟩) nk nk, .slice sa ng sc, .slice (some ⟨G, 0, none⟩) ni ni] rfl rfl _ _ HR10.out (by kernel_rfl) rfl (ones3 _ _ _ rfl rfl rfl) ?_; intro W11 hput; have HPUT := Lib.hid hput; clear hput)
        have hput := HPUT.out
        have hg11 : wr.grownBy W11 (some (W.heap.size + 1)) := ⟨hput.os, hput.tape, hput.output, by rw [hput.size]; exact Nat.le_refl _, fun k hk hne => hput.else_ k (fun e => hne (by rw [e]))⟩
        have hk11 := HK10.out.other HR10.out (by decide) (by decide) hg11
        obtain ⟨V, hV, hat, hdis⟩ := HAT.out
        have hblk11 : Blk W11 G 33 (ni * 3) := by
          obtain ⟨cs, h1, h2⟩ := HBLK.out
          exact ⟨cs, (hput.else_ _ (by omega)).trans h1, h2⟩
        have hat11 : ∀ j (h : j < y.items.length) (h' : j < V.length), ItemNewO G W9.heap.size W11 (j * 3) y.items[j] V[j] := fun j h h' => by
          obtain ⟨h1, h2, h3, h4⟩ := hat j h h'
          exact ⟨cell_gb1 h1 hg11 (by show G ≠ _; omega), cell_gb1 h2 hg11 (by show G ≠ _; omega), cell_gb1 h3 hg11 (by show G ≠ _; omega), h4.grown hg11 (fun r hr => by injection hr with hr; omega)⟩
        refine bodyPost_ret (results_cell_row Try.results31 _ _ (W.heap.size + 1) 27 _ (0, 0) _ rfl hput.here Try.underlying27 rfl (by kernel_rfl)) rfl ⟨⟨some ⟨GK, 0, none⟩, .slice sa ng sc, G, V, rfl, ?_⟩, HBR.out.trans (hput.below (by omega))⟩
        refine OW.of_copy (S := W9.heap.size) (c := nk) (Vk := VK) (by rw [hV, NI.out]) (by rw [← NK.out]; exact hk11) (show W.heap.size ≤ GK by have := HWK.out; omega) ?_ HGL9.out ?_ (fun j h h' => (hat11 j h h').2.2.2) (by omega) hdis
        · have := own_gb HG10.out HR10.out (by decide) hg11
          rw [NG.out] at this ⊢
          exact this
        · have h1 := own_of_blkI hblk11 NI.out.symm (by rw [hV, NI.out]) (by unfold maxLen; omega) (fun j h h' => ⟨(hat11 j h h').1, (hat11 j h h').2.1, (hat11 j h h').2.2.1⟩)
          exact own_lower h1 (by omega)
theorem world_CopyO (y : WorldV) (v : Value) (W : World) (hv : WorldIn W v y) (hsm : SmallW y) (hkf : ∀ k ∈ y.kinds, k.fields.length ≤ 1048576) : Calls Try.prog 31 #[v] W (WCopyPostO y y.kinds.length y.gens.length y.items.length W) := by
  obtain ⟨ak, ck, ag, cg, ai, ci, rfl, hzk, hzg, hzi, hk1, hk2⟩ := hv
  obtain ⟨s1, s2, s3, s4⟩ := hsm
  exact copy_worldO y ak _ ck ag _ cg ai _ ci rfl rfl rfl W hzk hzg hzi s1 s2 s3 s4 hkf
end Go.Proofs.Ytpilpkbblkhnaaa
end
