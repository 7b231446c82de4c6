/- Lemmas for the law MigrateBack: KindCopyO, DelK, DelF, RegRel. No conditions. -/
import Derived.Test.YtijeninfmjhbnaaDoorM11
import Derived.Test.YtijeninfmjhbnaaDoorRows
import Derived.Deep.RegionLaw
import Derived.Deep.LoopGhost
import Derived.Lib.Walk
import Derived.Test.YtijeninfmjhbnaaDoorM06
/- kind.Copy: the copy is the call's own, each kind's fields in a block of its own. By program (gen_kindcopyo.py). -/
section
namespace Go.Proofs.YtijeninfmjhbnaaDoor
open Go.ChangeShapes Go.WideShapes Go.ChangeAt Go.RowKit Go.Nm Go.Mem
set_option linter.unusedVariables false
def F_kco (BB G n k m : Nat) (q : ByteArray) (av : Option Addr) (cv : Nat) (y : KindV) (j : Nat) (v : Value) (w : World) : Prop :=
  match j with
  | 0 => v = .slice (some ⟨G, 0, none⟩) n n
  | 1 => v = .int .i64 k
  | 2 => v = .pointer (some ⟨BB, 0, none⟩)
  | 3 => v = .string q
  | 4 => v = .pointer (some ⟨BB, 1, none⟩)
  | 5 => v = .slice av m cv
  | 6 => ∃ a c, v = .slice a m c ∧ (∀ x, a = some x → BB < x.block) ∧ w.ownsRow (BB + 1) 40 3 (.slice a m c) m (fvals y.fields)
  | 7 => ∃ a c, v = .agg #[.string q, .slice a m c] ∧ (∀ x, a = some x → BB < x.block) ∧ w.ownsRow (BB + 1) 40 3 (.slice a m c) m (fvals y.fields)
  | 8 => v = .pointer (some ⟨G, k * 2, none⟩)
  | _ => True
theorem F_kco_mono (BB G n k m : Nat) (q : ByteArray) (av : Option Addr) (cv : Nat) (y : KindV) : Facts (F_kco BB G n k m q av cv y) := ⟨by
  intro j v w w' h hb
  unfold F_kco at h ⊢
  split at h
  all_goals first
    | exact h
    | (obtain ⟨a, c, e, hx, hi⟩ := h; exact ⟨a, c, e, hx, own_below hi hb⟩)
    | trivial⟩
/-- a kind in the making -/
def KNew (G : Nat) (w : World) (i : Nat) (y : KindV) (v : Value) : Prop := w.cell? ⟨G, i, none⟩ = some (.string y.name) ∧ w.cell? ⟨G, i + 1, none⟩ = some v ∧ FOwn w (G + 1) v y.fields ∧ y.name.size ≤ 9223372036854775807
theorem fown_set {w : World} {lo G j : Nat} {u v : Value} {l : List FieldV} (h : FOwn w lo v l) (hl : G < lo) : FOwn (w.setCell ⟨G, j, none⟩ u) lo v l :=
  h.grown (Dl.gb_set (Dl.gb_refl w (some G)) j u) (fun g hg e => by injection e with e; have := h.lt g hg; omega)
theorem KNew.below {G : Nat} {w w' : World} {i : Nat} {y : KindV} {v : Value} (h : KNew G w i y v) (hb : Below w.heap.size w w') : KNew G w' i y v := ⟨cell_abides h.1 hb, cell_abides h.2.1 hb, h.2.2.1.below hb, h.2.2.2⟩
theorem KNew.far {G : Nat} {w : World} {i : Nat} {y : KindV} {v : Value} (h : KNew G w i y v) (j : Nat) (u : Value) (n1 : j ≠ i) (n2 : j ≠ i + 1) : KNew G (w.setCell ⟨G, j, none⟩ u) i y v :=
  ⟨by rw [cell_set_ne (fun e => n1 (by injection e))]; exact h.1, by rw [cell_set_ne (fun e => n2 (by injection e))]; exact h.2.1, fown_set h.2.2.1 (by omega), h.2.2.2⟩
theorem KNew.new {G : Nat} {w : World} {i : Nat} {y : KindV} {v : Value} {o1 o2 : Value} (hs : y.name.size ≤ 9223372036854775807) (h1 : w.cell? ⟨G, i, none⟩ = some o1) (h2 : w.cell? ⟨G, i + 1, none⟩ = some o2) (hf : FOwn w (G + 1) v y.fields) :
    KNew G ((w.setCell ⟨G, i, none⟩ (.string y.name)).setCell ⟨G, i + 1, none⟩ v) i y v := by
  have hne : (⟨G, i + 1, none⟩ : Addr) ≠ ⟨G, i, none⟩ := fun e => by injection e with _ e; omega
  refine ⟨?_, ?_, fown_set (fown_set hf (by omega)) (by omega), hs⟩
  · rw [cell_set_ne hne]; exact cell_set_eq h1
  · exact cell_set_eq (u := o2) (by rw [cell_set_ne hne.symm]; exact h2)
set_option maxHeartbeats 8000000 in
theorem kind_CopyO (l : List KindV) (a : Option Addr) (n cap : Nat) (hn : l.length = n) (h1 : n ≤ 3518437208780) (hv : ∀ y ∈ l, y.fields.length ≤ 4398046510976) (W : World) (hz : SlAt 2 KindAt W a l) :
    Calls Tryd.prog 58 #[.slice a n cap] W fun e w' => (∃ V, e = .returned (.slice (some ⟨W.heap.size, 0, none⟩) n n) ∧ OwnK w' W.heap.size (.slice (some ⟨W.heap.size, 0, none⟩) n n) l V) ∧ Below W.heap.size W w' := by
  have HN := Lib.hid hn
  have HZ := Lib.hid hz
  have HV := Lib.hid hv
  clear hn hz hv
  go_enter Tryd.func58, Tryd.ntmps58
  go_wp2_with (at_make; (refine wpList_make_blk (z := .agg #[.string ByteArray.empty, .slice none 0 0]) (sz := 2) (bytes := 40) (e := 43) rfl _ _ 22 rfl (h2 := inf_kind3) (h1 := Tryd.underlying22) .i64 .i64 (n : Int) (n : Int) n rfl rfl rfl rfl ?b1 ?b2 ?_; (case b1 => omega); (case b2 => (unfold maxLen; omega))))
  intro w1 hblk hb1 hs1
  obtain ⟨G, hG⟩ : ∃ G, G = W.heap.size := ⟨_, rfl⟩
  rw [← hG] at hblk hs1 ⊢
  have HG := Lib.hid hG
  have HBLK := Lib.hid hblk
  have HB1 := Lib.hid hb1
  clear hG hblk hb1 hs1
  go_wp2_with fail
  go_loopg [4, 5, 11] n (fun gk v4 v5 vi wx => ∃ k : Nat, k ≤ n ∧ gk = n - k ∧ vi = .int .i64 k ∧ Blk wx G 43 (n * 2) ∧ (∃ V : List Value, V.length = k ∧ (∀ j (h : j < l.length) (h' : j < V.length), KNew G wx (j * 2) l[j] V[j]) ∧ ∀ i j (h : i < V.length) (h' : j < V.length), i ≠ j → ∀ g, V[i].ownBlock = some g → V[j].ownBlock ≠ some g) ∧ Below W.heap.size W wx)
  case atStart => exact ⟨0, Nat.zero_le _, rfl, rfl, HBLK.out, ⟨[], rfl, fun j h h' => absurd h' (Nat.not_lt_zero _), fun i j h => absurd h (Nat.not_lt_zero _)⟩, HB1.out⟩
  case round =>
    obtain ⟨k, hk, g2, rfl, hblk, hat, hb⟩ := hrel
    have G2 := Lib.hid g2
    have HB := Lib.hid hb
    have HBLK2 := Lib.hid hblk
    have HAT := Lib.hid hat
    have hgl := hblk.lt
    clear g2 hb hblk hat HBLK HB1
    by_cases hlt : k < n
    · obtain ⟨x, rfl, hx, hi⟩ := (HZ.out.below KindAt.abides HB.out) (by rw [HN.out]; omega)
      obtain ⟨c0, hnm, av, cv, c1, hc1, hc2, hv⟩ := hi k (by rw [HN.out]; exact hlt)
      obtain ⟨y, hy⟩ : ∃ y, y = l[k]'(by rw [HN.out]; exact hlt) := ⟨_, rfl⟩
      rw [← hy] at c0 c1 hv hnm hc1
      have hm : y.fields.length ≤ 4398046510976 := HV.out y (by rw [hy]; exact List.getElem_mem _)
      obtain ⟨m, hm2⟩ : ∃ m, m = y.fields.length := ⟨_, rfl⟩
      rw [← hm2] at c1 hm hc1
      obtain ⟨q, hq⟩ : ∃ q, q = y.name := ⟨_, rfl⟩
      rw [← hq] at c0
      have HY := Lib.hid hy
      have HM := Lib.hid hm2
      have HQ := Lib.hid hq
      have HNM := Lib.hid hnm
      clear hi hy hm2 hq hnm
      have hb0 := (Below.refl wr.heap.size wr).alloc (Nat.le_refl _) (.cells #[.string q, .slice av m cv] 43)
      have HI2 := Lib.hid (hv.below FieldAt.abides hb0)
      clear hv
      go_wp2_with fail
      have B0 : (wr.alloc (.cells #[.string q, .slice av m cv] 43)).cell? ⟨wr.heap.size, 0, none⟩ = some (.string q) := by simp
      have B1 : (wr.alloc (.cells #[.string q, .slice av m cv] 43)).cell? ⟨wr.heap.size, 1, none⟩ = some (.slice av m cv) := by simp
      refine wp_region_facts rfl 9 (by kernel_rfl) (F_kco wr.heap.size G n k m q av cv y) (F_kco_mono wr.heap.size G n k m q av cv y) ?_ ?_
      · refine ⟨?_, ?_, ?_, ?_, ?_, ?_, ?_, ?_, ?_, trivial⟩
        · intro vs w' F hb hd hF hl
          have e := (hF 3).trans (look_out _ 3 _ _ (by kernel_rfl))
          exact one_move _ rfl (by first | exact Or.inl rfl | exact Or.inr rfl) ⟨_, rfl, Below.refl _ _, e⟩
        · intro vs w' F hb hd hF hl
          have e := (hF 4).trans (look_out _ 4 _ _ (by kernel_rfl))
          exact one_move _ rfl (by first | exact Or.inl rfl | exact Or.inr rfl) ⟨_, rfl, Below.refl _ _, e⟩
        · intro vs w' F hb hd hF hl
          have e := (hF 5).trans (look_out _ 5 _ _ (by kernel_rfl))
          exact one_field _ _ _ rfl rfl _ _ e _ (fun w => by kernel_rfl) ⟨_, rfl, Below.refl _ _, rfl⟩
        · intro vs w' F hb hd hF hl
          have e := ((hF 18).trans (look_at _ 18 2 _ _ (by kernel_rfl) (by kernel_rfl) hl)).trans (dep_of (Fact := F_kco wr.heap.size G n k m q av cv y) hd 2 (by kernel_rfl))
          exact one_load _ _ rfl rfl _ _ e (cell_abides B0 hb) (by kernel_rfl) ⟨_, rfl, Below.refl _ _, rfl⟩
        · intro vs w' F hb hd hF hl
          have e := (hF 5).trans (look_out _ 5 _ _ (by kernel_rfl))
          exact one_field _ _ _ rfl rfl _ _ e _ (fun w => by kernel_rfl) ⟨_, rfl, Below.refl _ _, rfl⟩
        · intro vs w' F hb hd hF hl
          have e := ((hF 20).trans (look_at _ 20 4 _ _ (by kernel_rfl) (by kernel_rfl) hl)).trans (dep_of (Fact := F_kco wr.heap.size G n k m q av cv y) hd 4 (by kernel_rfl))
          exact one_load _ _ rfl rfl _ _ e (cell_abides B1 hb) (by kernel_rfl) ⟨_, rfl, Below.refl _ _, rfl⟩
        · intro vs w' F hb hd hF hl
          have e := (((hF 21).trans (look_at _ 21 5 _ _ (by kernel_rfl) (by kernel_rfl) hl)).trans (dep_of (Fact := F_kco wr.heap.size G n k m q av cv y) hd 5 (by kernel_rfl)))
          refine wpList_append_cells rfl _ _ 41 rfl w'.heap.size 40 (.agg #[.string ByteArray.empty, .int .i64 0, .int .i64 0]) 3 32 Tryd.underlying41 inf_fld3 rfl (by decide) (.slice none 0 0) 0 [] rfl (World.ownsRow_nil _ _ _ _) av m cv (fvals y.fields) e (by rw [fvals_len, HM.out]) (cells_flds (HI2.out.below FieldAt.abides hb)) (fvals_one _) (by unfold maxLen; omega) (by omega) (Nat.le_refl _) ?_
          intro v2 w2 hown hg hor
          have hsz := hb.size
          simp at hsz
          rw [List.nil_append, Nat.zero_add] at hown
          obtain ⟨a2, c2, rfl, hc1, hc2, hs2, hx2⟩ := flds_own HM.out.symm hown (flds_names HI2.out)
          exact ⟨_, rfl, (Below.refl _ _).grown hg (Nat.le_refl _) (fun g h => by cases h), a2, c2, rfl, fun x hx => by have := hx2 x hx; omega, own_lower hown (by omega)⟩
        · intro vs w' F hb hd hF hl
          obtain ⟨a2, c2, hv2, hr2⟩ := (dep_of (Fact := F_kco wr.heap.size G n k m q av cv y) hd 6 (by kernel_rfl))
          have e1 := (((hF 19).trans (look_at _ 19 3 _ _ (by kernel_rfl) (by kernel_rfl) hl)).trans (dep_of (Fact := F_kco wr.heap.size G n k m q av cv y) hd 3 (by kernel_rfl)))
          have e2 := ((hF 22).trans (look_at _ 22 6 _ _ (by kernel_rfl) (by kernel_rfl) hl)).trans hv2
          exact one_build _ _ rfl rfl #[(0, .string q), (1, .slice a2 m c2)] (parts2 e1 e2) (.agg #[.string q, .slice a2 m c2]) (fun w => by kernel_rfl) ⟨_, rfl, Below.refl _ _, a2, c2, rfl, hr2⟩
        · intro vs w' F hb hd hF hl
          have ex := (((hF 16).trans (look_at _ 16 0 _ _ (by kernel_rfl) (by kernel_rfl) hl)).trans (dep_of (Fact := F_kco wr.heap.size G n k m q av cv y) hd 0 (by kernel_rfl)))
          have ey := (((hF 17).trans (look_at _ 17 1 _ _ (by kernel_rfl) (by kernel_rfl) hl)).trans (dep_of (Fact := F_kco wr.heap.size G n k m q av cv y) hd 1 (by kernel_rfl)))
          exact one_index 22 _ _ rfl rfl (.slice (some ⟨G, 0, none⟩) n n) (.int .i64 k) (.pointer (some ⟨G, k * 2, none⟩)) ex ey (fun w => by clear hb hd hF hl ex ey; go_simp) ⟨_, rfl, Below.refl _ _, rfl⟩
      · intro vs W1 hl hb hI
        obtain ⟨a8, c8, i7, hx8, hi8⟩ := hI 7 (by omega)
        have i8 : vs.getD 8 undef = .pointer (some ⟨G, k * 2, none⟩) := hI 8 (by omega)
        obtain ⟨v0, v1, v2, v3, v4, v5, v6, v7, v8, v9, rfl⟩ := list10 hl
        replace i7 : v7 = .agg #[.string q, .slice a8 m c8] := i7
        replace i8 : v8 = .pointer (some ⟨G, k * 2, none⟩) := i8
        subst i7 i8
        have hblk1 := (HBLK2.out.below hb0).below hb
        obtain ⟨o1, ho1⟩ := hblk1.cell (k * 2) (by omega)
        obtain ⟨o2, ho2⟩ := hblk1.cell (k * 2 + 1) (by omega)
        have f1 := hblk1.frozen (k * 2)
        have f2 := hblk1.frozen (k * 2 + 1)
        have hbw : Below wr.heap.size wr W1 := hb0.trans (hb.mono (by simp))
        have hbn : Below W.heap.size W ((W1.setCell ⟨G, k * 2, none⟩ (.string q)).setCell ⟨G, k * 2 + 1, none⟩ (.slice a8 m c8)) := ((HB.out.trans (hbw.mono HB.out.size)).setCell (by rw [← HG.out]; exact Nat.le_refl _) _).setCell (by rw [← HG.out]; exact Nat.le_refl _) _
        have HBN := Lib.hid hbn
        have HBK := Lib.hid ((hblk1.set (k * 2) (.string q)).set (k * 2 + 1) (.slice a8 m c8))
        have hsz2 := hbw.size
        have hfo : FOwn W1 (G + 1) (.slice a8 m c8) y.fields := (FOwn.lower ⟨by rw [← HM.out]; exact hi8, flds_names (HI2.out)⟩ (by have := hgl; omega))
        have hatn : ∃ V : List Value, V.length = k + 1 ∧ (∀ j (h : j < l.length) (h' : j < V.length), KNew G ((W1.setCell ⟨G, k * 2, none⟩ (.string q)).setCell ⟨G, k * 2 + 1, none⟩ (.slice a8 m c8)) (j * 2) l[j] V[j]) ∧ ∀ i j (h : i < V.length) (h' : j < V.length), i ≠ j → ∀ g, V[i].ownBlock = some g → V[j].ownBlock ≠ some g := by
          obtain ⟨V, hV, hat, hdis⟩ := HAT.out
          have hlow : ∀ i (h : i < V.length) g, V[i].ownBlock = some g → g < wr.heap.size := fun i h g hg => ((hat i (by rw [HN.out]; omega) h).2.2.1.lt g hg).2
          have hnew : ∀ g, (Value.slice a8 m c8).ownBlock = some g → wr.heap.size < g := fun g hg => (own_lt hi8 g hg).1
          refine ⟨V ++ [.slice a8 m c8], by rw [List.length_append, hV]; rfl, fun j h h' => ?_, fun i j h h' hij g hg => ?_⟩
          · by_cases hjk : j < V.length
            · rw [List.getElem_append_left hjk]
              exact (((hat j h hjk).below hbw).far _ _ (by omega) (by omega)).far _ _ (by omega) (by omega)
            · rw [List.length_append] at h'
              have hjk2 : j = k := by have : [Value.slice a8 m c8].length = 1 := rfl; omega
              subst hjk2
              rw [List.getElem_append_right (by omega)]
              simp only [hV, Nat.sub_self, List.getElem_cons_zero]
              rw [← HY.out, HQ.out]
              exact KNew.new HNM.out ho1 ho2 hfo
          · have e1 : [Value.slice a8 m c8].length = 1 := rfl
            rw [List.length_append] at h h'
            by_cases hik : i < V.length
            · rw [List.getElem_append_left hik] at hg
              by_cases hjk : j < V.length
              · rw [List.getElem_append_left hjk]
                exact hdis i j hik hjk hij g hg
              · rw [List.getElem_append_right (by omega)]
                intro e
                have hj0 : j - V.length = 0 := by omega
                simp only [hj0, List.getElem_cons_zero] at e
                have := hlow i hik g hg
                have := hnew g e
                omega
            · rw [List.getElem_append_right (by omega)] at hg
              have hi0 : i - V.length = 0 := by omega
              simp only [hi0, List.getElem_cons_zero] at hg
              have hjk : j < V.length := by omega
              rw [List.getElem_append_left hjk]
              intro e
              have := hlow j hjk g e
              have := hnew g hg
              omega
        have HATN := Lib.hid hatn
        clear hI hl hb hbw hbn hblk1 hatn hi8 hx8 hfo hsz2 HI2 hb0 B0 B1
        simp only [fillAll, Act.put, List.setIfInBounds_toArray, List.set_cons_succ, List.set_cons_zero]
        go_wp2
        go_roundg (n - (k + 1))
        case measure => rw [G2.out]; omega
        case rel => exact ⟨k + 1, hlt, rfl, by go_num, HBK.out, HATN.out, HBN.out⟩
    · have hke : k = n := by omega
      have HK := Lib.hid hke
      clear hke
      go_wp2_with fail
      go_ret
      obtain ⟨V, hV, hat, hdis⟩ := HAT.out
      rw [← HG.out]
      refine ⟨⟨V, rfl, ⟨by rw [hV, HK.out, HN.out], ?_, rfl, fun i h h' => ⟨(hat i h h').2.2.1, (hat i h h').2.2.2⟩, hdis⟩⟩, by rw [HG.out]; exact HB.out⟩
      exact own_of_blk HBLK2.out HN.out (by rw [hV, HK.out, HN.out]) (by unfold maxLen; omega) (fun i h h' => ⟨(hat i h h').1, (hat i h h').2.1⟩)
end Go.Proofs.YtijeninfmjhbnaaDoor
end
/- slices.Delete of one element of a row of the call's own: []api.Kind. By program (gen_del.py). -/
section
namespace Go.Proofs.YtijeninfmjhbnaaDoor
open Go.ChangeShapes Go.WideShapes Go.ChangeAt Go.RowKit Go.Mem Go.Dl
set_option linter.unusedVariables false
set_option maxHeartbeats 4000000 in
set_option maxRecDepth 100000 in
theorem del_K (w : World) (D k m : Nat) (v : Value) (xs : List Value) (hk : k < m) (hl : m ≤ 1000000) (hone : ∀ u ∈ xs, u.oneCell' = true) (ho : w.ownsRow D 43 2 v m xs) :
    Calls Tryd.prog 61 #[v, .int .i64 k, .int .i64 ((k : Int) + 1)] w (fun e w' => ∃ v', e = .returned v' ∧ w'.ownsRow D 43 2 v' (m - 1) (xs.take (k * 2) ++ xs.drop ((k + 1) * 2)) ∧ w.grownBy w' v.ownBlock ∧ v'.ownBlock = v.ownBlock) := by
  obtain ⟨i0, hi0, hz0, hz1, hz2⟩ := info_parts (show (Tryd.prog.info? 43).map (fun i => (i.zero, i.size, i.bytes)) = some (some (.agg #[.string ByteArray.empty, .slice none 0 0]), 2, 40) by kernel_rfl)
  obtain ⟨gg, cap, rfl, hDg, ltg⟩ := ho.form (by omega)
  have hlc : m ≤ cap := by
    rcases ho.2 with ⟨h1, _⟩ | ⟨_, _, _, h1, _, _, h4, _⟩
    · cases h1
    · injection h1 with _ _ h6
      rw [h6]; exact h4
  have hcm : cap ≤ 9223372036854775807 := by
    rcases ho.2 with ⟨h1, _⟩ | ⟨_, _, _, h1, _, _, _, h5, _⟩
    · cases h1
    · injection h1 with _ _ h6
      rw [h6]; exact h5
  have hxl := ho.1
  obtain ⟨news, hnews⟩ : ∃ news, news = xs.drop ((k + 1) * 2) := ⟨_, rfl⟩
  have hlen : news.length = (m - (k + 1)) * 2 := by rw [hnews, List.length_drop, hxl]; omega
  have hget : ∀ t u, news[t]? = some u → xs[(k + 1) * 2 + t]? = some u := by
    intro t u hu
    rw [hnews, List.getElem?_drop] at hu
    exact hu
  obtain ⟨A, hA, hsrc⟩ : ∃ A : Addr, (if cap = k + 1 then some (⟨gg, 0, none⟩ : Addr) else some ⟨gg, (k + 1) * 2, none⟩) = some A ∧ Hid (∀ t u, news[t]? = some u → w.drew.cell? (A.add t) = some u) := by
    by_cases h : cap = k + 1
    · refine ⟨⟨gg, 0, none⟩, by simp [h], Lib.hid fun t u hu => ?_⟩
      have h0 : news.length = 0 := by rw [hlen]; omega
      rw [List.length_eq_zero_iff.1 h0] at hu
      simp at hu
    · refine ⟨⟨gg, (k + 1) * 2, none⟩, by simp [h], Lib.hid fun t u hu => ?_⟩
      have ht : t < news.length := (List.getElem?_eq_some_iff.1 hu).1
      rw [Addr.add_lit]
      show w.cell? _ = _
      rw [ho.cellAt _ (by rw [hlen] at ht; omega)]
      exact hget t u hu
  have s2 : Hid (∀ u ∈ news, u.oneCell' = true) := Lib.hid (by
    rw [hnews]
    exact fun u hu => hone u (List.mem_of_mem_drop hu))
  have s3 : Hid (∀ t, t < news.length → (w.drew.cell? ⟨gg, 0 + k * 2 + t, none⟩).isSome = true ∧ w.drew.frozen? ⟨gg, 0 + k * 2 + t, none⟩ = false) := Lib.hid (by
    intro t ht
    rw [hlen] at ht
    refine ⟨?_, ?_⟩
    · show (w.cell? _).isSome = true
      rw [ho.cellAt _ (by omega), List.getElem?_eq_getElem (by rw [hxl]; omega)]; rfl
    · exact ho.frozenAt _)
  obtain ⟨W1, hW1⟩ : ∃ W1, W1 = w.drew.setCells gg (0 + k * 2) news := ⟨_, rfl⟩
  have ho1 : W1.ownsRow D 43 2 (.slice (some ⟨gg, 0, none⟩) m cap) m (setL xs (k * 2) news) := by
    rw [hW1, Nat.zero_add]
    exact own_setCells news _ _ _ ho.drew
  have hg1 : w.grownBy W1 (some gg) := by
    rw [hW1]
    exact gb_setCells news _ _ _ (show w.grownBy w.drew (some gg) from gb_drew (gb_refl w (some gg)))
  have hcl : ∀ ty, (Builtin.clear_ #[22] ty #[.slice (some ⟨gg, (k + (m - (k + 1))) * 2, none⟩) (m - (k + (m - (k + 1)))) (cap - (k + (m - (k + 1))))]).run Tryd.prog W1 = .ok (.tuple #[]) (W1.setCells gg ((k + (m - (k + 1))) * 2) [.string ByteArray.empty, .slice none 0 0]) := fun ty => by
    rw [show m - (k + (m - (k + 1))) = 1 by omega, show k + (m - (k + 1)) = m - 1 by omega]
    exact run_clear_one W1 _ _ ty (.agg #[.string ByteArray.empty, .slice none 0 0]) _ Tryd.underlying22 (fun w => by kernel_rfl) rfl (by simp [Value.oneCell']) gg _ _
      (fun j hj => by rw [ho1.cellAt _ (by simp at hj; omega), List.getElem?_eq_getElem (by simp at hj; rw [setL_length, hxl]; omega)]; rfl) (fun j _ => ho1.frozenAt _)
  have HW1 := Lib.hid hW1
  have HO1 := Lib.hid ho1
  have HG1 := Lib.hid hg1
  have HLEN : Hid (news.length = (m - (k + 1)) * 2) := hlen
  have HN := Lib.hid hnews
  have HXL := Lib.hid hxl
  have i1 : k ≤ cap := by omega
  have i2 : k + 1 ≤ cap := by omega
  have i3 : k + (m - (k + 1)) ≤ cap := by omega
  have i4 : k + (m - (k + 1)) ≤ m := by omega
  have i5 : (0 : Int) ≤ (k : Int) + 1 := by omega
  have i6 : (k : Int) + 1 ≤ (m : Int) := by omega
  clear hW1 ho1 hg1 hlen hnews ho hget hone hxl
  go_enter Tryd.func61, Tryd.ntmps61
  go_wp2_with fail
  go_region_law (refine step_append_room rfl (.tmp 22) (.tmp 25) 22 rfl 43 i0 2 Tryd.underlying22 hi0 hz1 gg 0 k cap (by simp [Act.eval, Act.put]) A (m - (k + 1)) (cap - (k + 1)) news (by simp [Act.eval, Act.put]) HLEN.out hsrc.out s2.out (by omega) s3.out ?_; rw [← HW1.out])
  go_wp2
  go_ret
  have ho2 := own_setCells [.string ByteArray.empty, .slice none 0 0] _ ((m - 1) * 2) _ HO1.out
  have ho3 := own_take ho2 (Nat.sub_le m 1) (by omega)
  have hd := del_cells xs m k 2 HXL.out (by omega) [.string ByteArray.empty, .slice none 0 0] rfl
  rw [← HN.out] at hd ⊢
  rw [show k + (m - (k + 1)) = m - 1 by omega]
  refine ⟨_, rfl, ?_, gb_setCells _ _ _ _ HG1.out, rfl⟩
  rw [hd] at ho3
  exact ho3
end Go.Proofs.YtijeninfmjhbnaaDoor
end
/- slices.Delete of one element of a row of the call's own: []api.Field. By program (gen_del.py). -/
section
namespace Go.Proofs.YtijeninfmjhbnaaDoor
open Go.ChangeShapes Go.WideShapes Go.ChangeAt Go.RowKit Go.Mem Go.Dl
set_option linter.unusedVariables false
set_option maxHeartbeats 4000000 in
set_option maxRecDepth 100000 in
theorem del_F (w : World) (D k m : Nat) (v : Value) (xs : List Value) (hk : k < m) (hl : m ≤ 1000000) (hone : ∀ u ∈ xs, u.oneCell' = true) (ho : w.ownsRow D 40 3 v m xs) :
    Calls Tryd.prog 62 #[v, .int .i64 k, .int .i64 ((k : Int) + 1)] w (fun e w' => ∃ v', e = .returned v' ∧ w'.ownsRow D 40 3 v' (m - 1) (xs.take (k * 3) ++ xs.drop ((k + 1) * 3)) ∧ w.grownBy w' v.ownBlock ∧ v'.ownBlock = v.ownBlock) := by
  obtain ⟨i0, hi0, hz0, hz1, hz2⟩ := info_parts (show (Tryd.prog.info? 40).map (fun i => (i.zero, i.size, i.bytes)) = some (some (.agg #[.string ByteArray.empty, .int .i64 0, .int .i64 0]), 3, 32) by kernel_rfl)
  obtain ⟨gg, cap, rfl, hDg, ltg⟩ := ho.form (by omega)
  have hlc : m ≤ cap := by
    rcases ho.2 with ⟨h1, _⟩ | ⟨_, _, _, h1, _, _, h4, _⟩
    · cases h1
    · injection h1 with _ _ h6
      rw [h6]; exact h4
  have hcm : cap ≤ 9223372036854775807 := by
    rcases ho.2 with ⟨h1, _⟩ | ⟨_, _, _, h1, _, _, _, h5, _⟩
    · cases h1
    · injection h1 with _ _ h6
      rw [h6]; exact h5
  have hxl := ho.1
  obtain ⟨news, hnews⟩ : ∃ news, news = xs.drop ((k + 1) * 3) := ⟨_, rfl⟩
  have hlen : news.length = (m - (k + 1)) * 3 := by rw [hnews, List.length_drop, hxl]; omega
  have hget : ∀ t u, news[t]? = some u → xs[(k + 1) * 3 + t]? = some u := by
    intro t u hu
    rw [hnews, List.getElem?_drop] at hu
    exact hu
  obtain ⟨A, hA, hsrc⟩ : ∃ A : Addr, (if cap = k + 1 then some (⟨gg, 0, none⟩ : Addr) else some ⟨gg, (k + 1) * 3, none⟩) = some A ∧ Hid (∀ t u, news[t]? = some u → w.drew.cell? (A.add t) = some u) := by
    by_cases h : cap = k + 1
    · refine ⟨⟨gg, 0, none⟩, by simp [h], Lib.hid fun t u hu => ?_⟩
      have h0 : news.length = 0 := by rw [hlen]; omega
      rw [List.length_eq_zero_iff.1 h0] at hu
      simp at hu
    · refine ⟨⟨gg, (k + 1) * 3, none⟩, by simp [h], Lib.hid fun t u hu => ?_⟩
      have ht : t < news.length := (List.getElem?_eq_some_iff.1 hu).1
      rw [Addr.add_lit]
      show w.cell? _ = _
      rw [ho.cellAt _ (by rw [hlen] at ht; omega)]
      exact hget t u hu
  have s2 : Hid (∀ u ∈ news, u.oneCell' = true) := Lib.hid (by
    rw [hnews]
    exact fun u hu => hone u (List.mem_of_mem_drop hu))
  have s3 : Hid (∀ t, t < news.length → (w.drew.cell? ⟨gg, 0 + k * 3 + t, none⟩).isSome = true ∧ w.drew.frozen? ⟨gg, 0 + k * 3 + t, none⟩ = false) := Lib.hid (by
    intro t ht
    rw [hlen] at ht
    refine ⟨?_, ?_⟩
    · show (w.cell? _).isSome = true
      rw [ho.cellAt _ (by omega), List.getElem?_eq_getElem (by rw [hxl]; omega)]; rfl
    · exact ho.frozenAt _)
  obtain ⟨W1, hW1⟩ : ∃ W1, W1 = w.drew.setCells gg (0 + k * 3) news := ⟨_, rfl⟩
  have ho1 : W1.ownsRow D 40 3 (.slice (some ⟨gg, 0, none⟩) m cap) m (setL xs (k * 3) news) := by
    rw [hW1, Nat.zero_add]
    exact own_setCells news _ _ _ ho.drew
  have hg1 : w.grownBy W1 (some gg) := by
    rw [hW1]
    exact gb_setCells news _ _ _ (show w.grownBy w.drew (some gg) from gb_drew (gb_refl w (some gg)))
  have hcl : ∀ ty, (Builtin.clear_ #[41] ty #[.slice (some ⟨gg, (k + (m - (k + 1))) * 3, none⟩) (m - (k + (m - (k + 1)))) (cap - (k + (m - (k + 1))))]).run Tryd.prog W1 = .ok (.tuple #[]) (W1.setCells gg ((k + (m - (k + 1))) * 3) [.string ByteArray.empty, .int .i64 0, .int .i64 0]) := fun ty => by
    rw [show m - (k + (m - (k + 1))) = 1 by omega, show k + (m - (k + 1)) = m - 1 by omega]
    exact run_clear_one W1 _ _ ty (.agg #[.string ByteArray.empty, .int .i64 0, .int .i64 0]) _ Tryd.underlying41 (fun w => by kernel_rfl) rfl (by simp [Value.oneCell']) gg _ _
      (fun j hj => by rw [ho1.cellAt _ (by simp at hj; omega), List.getElem?_eq_getElem (by simp at hj; rw [setL_length, hxl]; omega)]; rfl) (fun j _ => ho1.frozenAt _)
  have HW1 := Lib.hid hW1
  have HO1 := Lib.hid ho1
  have HG1 := Lib.hid hg1
  have HLEN : Hid (news.length = (m - (k + 1)) * 3) := hlen
  have HN := Lib.hid hnews
  have HXL := Lib.hid hxl
  have i1 : k ≤ cap := by omega
  have i2 : k + 1 ≤ cap := by omega
  have i3 : k + (m - (k + 1)) ≤ cap := by omega
  have i4 : k + (m - (k + 1)) ≤ m := by omega
  have i5 : (0 : Int) ≤ (k : Int) + 1 := by omega
  have i6 : (k : Int) + 1 ≤ (m : Int) := by omega
  clear hW1 ho1 hg1 hlen hnews ho hget hone hxl
  go_enter Tryd.func62, Tryd.ntmps62
  go_wp2_with fail
  go_region_law (refine step_append_room rfl (.tmp 22) (.tmp 25) 41 rfl 40 i0 3 Tryd.underlying41 hi0 hz1 gg 0 k cap (by simp [Act.eval, Act.put]) A (m - (k + 1)) (cap - (k + 1)) news (by simp [Act.eval, Act.put]) HLEN.out hsrc.out s2.out (by omega) s3.out ?_; rw [← HW1.out])
  go_wp2
  go_ret
  have ho2 := own_setCells [.string ByteArray.empty, .int .i64 0, .int .i64 0] _ ((m - 1) * 3) _ HO1.out
  have ho3 := own_take ho2 (Nat.sub_le m 1) (by omega)
  have hd := del_cells xs m k 3 HXL.out (by omega) [.string ByteArray.empty, .int .i64 0, .int .i64 0] rfl
  rw [← HN.out] at hd ⊢
  rw [show k + (m - (k + 1)) = m - 1 by omega]
  refine ⟨_, rfl, ?_, gb_setCells _ _ _ _ HG1.out, rfl⟩
  rw [hd] at ho3
  exact ho3
end Go.Proofs.YtijeninfmjhbnaaDoor
end
/- Drawn regions by facts, over relations of worlds, one for each operation: an operation that writes a row of the call's own (an append) may stand in the head. By program from RegTail (its proof, Below turned into Rel). -/
section
namespace Go.Mem
open Go.Proofs
set_option linter.unusedVariables false
structure FactsR (RelI : Nat → World → World → Prop) (Fact : Nat → Value → World → Prop) : Prop where
  mono : ∀ i j v w w', i ≠ j → Fact j v w → RelI i w w' → Fact j v w'
section
variable (P : Program) (ops : List Oper) (Q : Exit → Act → World → Prop) (a0 : Act) (W0 : World) (Rel : World → World → Prop) (RelI : Nat → World → World → Prop) (Fact : Nat → Value → World → Prop) (qw : Nat) (Inv : World → Prop) (n : Nat)
/-- What stands behind operation i. -/
def QOneR (w : World) (i : Nat) (o : Oper) (F : Act) : Exit → Act → World → Prop
  | .normal, a, w' => ∃ v : Value, a = F.put o.dst v ∧ RelI i w w' ∧ Fact i v w'
  | e, a, w => Q e a w
/-- what is owed for operation i; the tail's slots hold what they held -/
def OblOneR (i : Nat) (o : Oper) : Prop := ∀ (vs : List Value) (w : World) (F : Act), Rel W0 w → (∀ e ∈ o.after, Region.binds .any e = true → Fact e.on (vs.getD e.on undef) w) → (∀ t, F.eval (.tmp t) = look a0 t ops vs) → vs.length = ops.length → (∀ t, n ≤ t → vs.getD t undef = (origs a0 ops).getD t undef) → (i = qw → Inv w) → wpList P ops.toArray (QOneR Q RelI Fact w i o F) [o] F w
def OblR : List Oper → Nat → Prop
  | [], _ => True
  | o :: r, i => OblOneR P ops Q a0 W0 Rel RelI Fact qw Inv n i o ∧ OblR r (i + 1)
end
theorem OblR.get {P : Program} {ops : List Oper} {Q : Exit → Act → World → Prop} {a0 : Act} {W0 : World} {Rel : World → World → Prop} {RelI : Nat → World → World → Prop} {Fact : Nat → Value → World → Prop} {qw : Nat} {Inv : World → Prop} {n : Nat} : ∀ {l : List Oper} {k : Nat}, OblR P ops Q a0 W0 Rel RelI Fact qw Inv n l k → ∀ {i : Nat} {o : Oper}, l[i]? = some o → OblOneR P ops Q a0 W0 Rel RelI Fact qw Inv n (k + i) o
  | [], _, _, i, o, h => by simp at h
  | x :: r, k, H, 0, o, h => by simp at h; subst h; exact H.1
  | x :: r, k, H, i + 1, o, h => by
    have := H.2.get (i := i) (o := o) (by simpa using h)
    rwa [show k + 1 + i = k + (i + 1) by omega] at this
theorem wp_region_facts_r {P : Program} {id : Nat} {ops : List Oper} {Q : Exit → Act → World → Prop} {a0 : Act} {w0 : World} (hm : P.follows .mixedOrders = true) (n : Nat)
    (hac : (acyclicB ops && distinctB ops && tailT ops n && Region.seqB .any ops.toArray (ops.drop n).length n (headTail n (ops.length - n)) && decide (n ≤ ops.length)) = true)
    (Rel : World → World → Prop) (hr0 : Rel w0 w0.drew) (htr : ∀ a b c, Rel a b → Rel b c → Rel a c) (RelI : Nat → World → World → Prop) (hsub : ∀ i a b, RelI i a b → Rel a b) (Fact : Nat → Value → World → Prop) (hF : FactsR RelI Fact) (qw : Nat) (Inv : World → Prop) (hi0 : Inv w0.drew) (hinv : ∀ i a b, i ≠ qw → RelI i a b → Inv a → Inv b)
    (hstep : OblR P ops Q a0 w0 Rel RelI Fact qw Inv n (ops.take n) 0)
    (hend : ∀ (vs : List Value) (w : World), vs.length = ops.length → Rel w0 w → (∀ j, j < n → Fact j (vs.getD j undef) w) → wpList P ops.toArray Q (ops.drop n) (fillAll a0 ops vs) w) :
    (Code.region id ops.toArray true).wp P Q a0 w0 := by
  simp only [Bool.and_eq_true, decide_eq_true_eq] at hac
  obtain ⟨⟨⟨⟨hac, hdis⟩, htl⟩, hseq⟩, hn⟩ := hac
  refine wp_region_any hm ?_
  have key : ∀ (fuel : Nat) (listed : Array Bool) (vs : List Value) (w : World), listed.size = ops.length → vs.length = ops.length → unl listed.toList = fuel → (∀ t, n ≤ t → t < ops.length → listed.getD t true = false) →
      Rel w0 w → (∀ j, j < ops.length → listed.getD j true = true → Fact j (vs.getD j undef) w) → (∀ j o, ops[j]? = some o → listed.getD j true = true → ∀ e ∈ o.after, Region.binds .any e = true → listed.getD e.on true = true) → (∀ t, n ≤ t → vs.getD t undef = (origs a0 ops).getD t undef) → (listed.getD qw true = false → Inv w) → wpAny P .any ops.toArray Q fuel listed (fillAll a0 ops vs) w := by
    intro fuel
    induction fuel with
    | zero =>
      intro listed vs w hs hvl hu ht hb hI hcl hT hIV
      have hall : ∀ j, listed.getD j true = true := by
        intro j
        by_cases hj : j < listed.size
        · exact unl_zero hu (listed.getD j true) (by simp [hj])
        · simp [hj]
      have hno : n = ops.length := by
        rcases Nat.lt_or_ge n ops.length with h | h
        · have h1 := ht n (Nat.le_refl _) h; rw [hall n] at h1; cases h1
        · omega
      have hd : ops.drop n = [] := by rw [hno]; simp
      have := hend vs w hvl hb (fun j hj => hI j (by omega) (hall j))
      rw [hd] at this
      refine ⟨?_, this⟩
      unfold Region.ready
      rw [List.filter_eq_nil_iff]
      intro i hi
      simp [hall i]
    | succ fuel ih =>
      intro listed vs w hs hvl hu ht hb hI hcl hT hIV
      by_cases hpre : ∀ j, j < n → listed.getD j true = true
      · -- the head is done: the tail, in its one order
        have hL : listed = headTail n (ops.length - n) := by
          unfold headTail
          apply Array.ext
          · simp; omega
          · intro i h1 h2
            have e : listed[i] = listed.getD i true := by simp [h1]
            rw [e]
            by_cases hi : i < n
            · rw [hpre i hi]; simp [hi]
            · rw [ht i (by omega) (by omega)]; simp [List.getElem_append, hi]
        have hf : fuel + 1 = (ops.drop n).length := by
          rw [← hu, hL]; simp [headTail, unl]
        rw [hf]
        refine wpAny_of_seq (ops.drop n) n listed _ w (fun j => by simp [List.getElem?_drop]) (by rw [hL]; exact hseq) ?_
        exact hend vs w hvl hb (fun j hj => hI j (by omega) (hpre j hj))
      · constructor
        · intro hr
          exfalso
          obtain ⟨i, h1, h2⟩ := first_false listed.toList (by omega)
          have hi : i < listed.size := by
            have := (List.getElem?_eq_some_iff.1 h1).1; simpa using this
          have hio : i < ops.length := by omega
          have hmem : i ∈ Region.ready .any ops.toArray listed := by
            unfold Region.ready
            rw [List.mem_filter]
            refine ⟨by simp; omega, ?_⟩
            have hl : listed.getD i true = false := by simp [Array.getD_eq_getD_getElem?, ← Array.getElem?_toList, h1]
            rw [hl]
            have ho : ops.toArray[i]? = some ops[i] := by simp [hio]
            rw [ho]
            simp only [Option.map_some, Option.getD_some, Bool.not_false, Bool.true_and, Array.all_eq_true_iff_forall_mem]
            intro e he
            unfold acyclicB at hac
            have := List.all_eq_true.1 hac (ops[i], i) (by rw [List.mem_zipIdx_iff_getElem?]; simp [hio])
            have := (Array.all_eq_true_iff_forall_mem.1 this) e he
            simp only [Bool.or_eq_true, Bool.not_eq_true', decide_eq_true_eq] at this ⊢
            rcases this with h | h
            · exact Or.inl h
            · right
              have := h2 e.on h
              simp [Array.getD_eq_getD_getElem?, ← Array.getElem?_toList, this]
          rw [hr] at hmem
          cases hmem
        · intro i hi
          unfold Region.ready at hi
          rw [List.mem_filter] at hi
          obtain ⟨hir, hi⟩ := hi
          have hio : i < ops.length := by simpa using hir
          have hoA : ops.toArray[i]? = some ops[i] := by simp [hio]
          rw [hoA] at hi
          simp only [Option.map_some, Option.getD_some, Bool.and_eq_true, Bool.not_eq_true', Array.all_eq_true_iff_forall_mem] at hi
          obtain ⟨hl, hdep⟩ := hi
          have hdep' : ∀ e ∈ (ops[i]).after, Region.binds .any e = true → e.on < listed.size ∧ listed.getD e.on true = true := by
            intro e he hbd
            have := hdep e he
            rw [hbd] at this
            simp only [Bool.not_true, Bool.false_or] at this
            by_cases hb : e.on < listed.size
            · exact ⟨hb, by simpa [hb] using this⟩
            · simp [hb] at this
          have hin : i < n := by
            rcases Nat.lt_or_ge i n with h | h
            · exact h
            · exfalso
              apply hpre
              intro j hj
              unfold tailT at htl
              have := List.all_eq_true.1 htl (ops[i], i) (by rw [List.mem_zipIdx_iff_getElem?]; simp [hio])
              simp only [Bool.or_eq_true, decide_eq_true_eq] at this
              rcases this with h' | h'
              · omega
              · have := List.all_eq_true.1 h' j (by simp; omega)
                exact anc_listed hcl 8 i j ops[i] (by simp [hio]) (fun e he hbd => (hdep' e he hbd).2) this
          have ho : ops[i]? = some ops[i] := by simp [hio]
          have hot : (ops.take n)[i]? = some ops[i] := by rw [List.getElem?_take, if_pos hin]; exact ho
          have hl' : listed.toList[i]? = some false := by
            have hlt : i < listed.size := by omega
            have : listed.getD i true = listed[i] := by simp [hlt]
            rw [this] at hl
            rw [Array.getElem?_toList, Array.getElem?_eq_getElem hlt, hl]
          have hstep' := hstep.get hot
          rw [Nat.zero_add] at hstep'
          have H := hstep' vs w (fillAll a0 ops vs) hb (fun e he hbd => hI e.on (by have := (hdep' e he hbd).1; omega) (hdep' e he hbd).2) (fun t => eval_fill a0 t ops vs) hvl hT (fun e => hIV (by rw [← e]; exact hl))
          have hnext : ∀ (a' : Act) (w' : World), QOneR Q RelI Fact w i ops[i] (fillAll a0 ops vs) .normal a' w' → wpAny P .any ops.toArray Q fuel (listed.setIfInBounds i true) a' w' := by
            rintro a' w' ⟨v, rfl, hb', hv⟩
            rw [fillAll_set a0 ops vs i ops[i] v hdis ho (by omega)]
            refine ih _ (vs.set i v) w' (by simpa using hs) (by simpa using hvl) ?_ ?_ (htr _ _ _ hb (hsub _ _ _ hb')) ?_ ?_ ?_ (fun hq => by
              by_cases e : i = qw
              · subst e
                by_cases hlt : i < listed.size <;> simp [Array.getD_eq_getD_getElem?, hlt] at hq
              · rw [Array.getD_eq_getD_getElem?, Array.getElem?_setIfInBounds, if_neg e, ← Array.getD_eq_getD_getElem?] at hq
                exact hinv i _ _ e hb' (hIV hq))
            · have := unl_set listed.toList i hl'
              rw [Array.toList_setIfInBounds]; omega
            · intro t h1 h2
              rw [Array.getD_eq_getD_getElem?, Array.getElem?_setIfInBounds, if_neg (by omega), ← Array.getD_eq_getD_getElem?]
              exact ht t h1 h2
            · intro j hj hlj
              by_cases e : j = i
              · subst e
                rw [List.getD_eq_getElem?_getD, List.getElem?_set_self (by omega)]
                exact hv
              · rw [List.getD_eq_getElem?_getD, List.getElem?_set_ne (by omega), ← List.getD_eq_getElem?_getD]
                refine hF.mono i _ _ _ _ (fun e2 => e e2.symm) (hI j hj ?_) hb'
                rwa [Array.getD_eq_getD_getElem?, Array.getElem?_setIfInBounds, if_neg (by omega), ← Array.getD_eq_getD_getElem?] at hlj
            · have up : ∀ q, listed.getD q true = true → (listed.setIfInBounds i true).getD q true = true := by
                intro q hq
                by_cases e : q = i
                · subst e
                  by_cases hlt : q < listed.size <;> simp [Array.getD_eq_getD_getElem?, hlt]
                · rwa [Array.getD_eq_getD_getElem?, Array.getElem?_setIfInBounds, if_neg (by omega), ← Array.getD_eq_getD_getElem?]
              intro j o hoj hlj e he hbd
              apply up
              by_cases hji : j = i
              · subst hji
                rw [ho] at hoj
                injection hoj with hoj
                subst hoj
                exact (hdep' e he hbd).2
              · rw [Array.getD_eq_getD_getElem?, Array.getElem?_setIfInBounds, if_neg (by omega), ← Array.getD_eq_getD_getElem?] at hlj
                exact hcl j o hoj hlj e he hbd
            · intro t h1
              rw [List.getD_eq_getElem?_getD, List.getElem?_set_ne (by omega), ← List.getD_eq_getElem?_getD]
              exact hT t h1
          unfold wpOp
          rw [hoA]
          simp only
          unfold wpList at H
          split
          · rename_i hw
            rw [if_pos hw] at H
            have conv : ∀ {K : Act → World → Prop}, (ops[i]).wp P (fillAll a0 ops vs) w K (QOneR Q RelI Fact w i ops[i] (fillAll a0 ops vs)) → (ops[i]).wp P (fillAll a0 ops vs) w K Q := by
              intro K hh
              unfold Oper.wp at *
              generalize (execOp (fillAll a0 ops vs).eval ops[i]).run P w = r at *
              cases r with
              | ok n w' =>
                cases n <;> simp only [Oper.upon] at hh ⊢ <;>
                  first
                    | exact hh
                    | (refine Calls.mono hh (fun e w'' he => ?_)
                       cases e with
                       | returned v => exact he
                       | panicked c => exact he
                       | outgrown =>
                         obtain ⟨a1, w1, hq⟩ := he
                         exact ⟨a1, w1, hq⟩)
              | halt x w' => cases x <;> simp only [Oper.upon] at hh ⊢ <;> exact hh
            rcases H with H | ⟨hasks, a1, w1, hq⟩
            · left
              refine conv (Oper.wp_mono (fun a w h => ?_) H)
              exact hnext _ _ h
            · right
              exact ⟨hasks, a1, w1, hq⟩
          · rename_i hw
            rw [if_neg hw] at H
            exact hnext _ _ H
  have hrep : unl (Array.replicate ops.toArray.size false).toList = ops.toArray.size := by
    simp [unl]
  have := key ops.toArray.size (Array.replicate ops.toArray.size false) (origs a0 ops) w0.drew (by simp) (by simp [origs]) hrep (fun t h1 h2 => by simp [h2]) hr0 (fun j hj h => by simp [hj] at h) (fun j o hoj h => by have := (List.getElem?_eq_some_iff.1 hoj).1; simp [this] at h) (fun t h => rfl) (fun _ => hi0)
  rwa [fillAll_origs] at this
end Go.Mem
end
