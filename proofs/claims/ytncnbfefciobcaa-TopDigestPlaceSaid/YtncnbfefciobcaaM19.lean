/- Lemmas for the law TopDigestPlace: KindCopy, WCopy. No conditions. -/
import Derived.Test.YtncnbfefciobcaaM07
import Derived.Test.YtncnbfefciobcaaM03
import Derived.Test.YtncnbfefciobcaaM08
import Derived.Deep.LoopGhost
import Derived.Shelf.Abstract
import Derived.Test.YtncnbfefciobcaaM17
import Derived.Test.YtncnbfefciobcaaM16
import Derived.Test.YtncnbfefciobcaaM18
import Derived.Deep.DeepMust
import Derived.OwnWalk
/- kind.Copy. -/
section
namespace Go.Proofs.Ytncnbfefciobcaa
open Go.ChangeShapes Go.WideShapes Go.ChangeAt Go.RowKit Go.Nm Go.Mem
set_option linter.unusedVariables false
theorem inf_kind3 : (Try.prog.info? 53).map (fun i => (i.zero, i.size, i.bytes)) = some (some (.agg #[.string ByteArray.empty, .slice none 0 0]), 2, 40) := by kernel_rfl
theorem inf_fld3 : (Try.prog.info? 50).map (fun i => (i.zero, i.size, i.bytes)) = some (some (.agg #[.string ByteArray.empty, .int .i64 0, .int .i64 0]), 3, 32) := by kernel_rfl
def F_kc (BB G n k m : Nat) (q : ByteArray) (av : Option Addr) (cv : Nat) (y : KindV) (j : Nat) (v : Value) (w : World) : Prop :=
  match j with
  | 0 => v = .slice (some ⟨G, 0, none⟩) n n
  | 1 => v = .int .i64 k
  | 2 => v = .pointer (some ⟨BB, 0, none⟩)
  | 3 => v = .string q
  | 4 => v = .pointer (some ⟨BB, 1, none⟩)
  | 5 => v = .slice av m cv
  | 6 => ∃ a c, v = .slice a m c ∧ m ≤ c ∧ c ≤ 9223372036854775807 ∧ SlAt 3 FieldAt w a y.fields ∧ (∀ x, a = some x → BB < x.block)
  | 7 => ∃ a c, v = .agg #[.string q, .slice a m c] ∧ m ≤ c ∧ c ≤ 9223372036854775807 ∧ SlAt 3 FieldAt w a y.fields ∧ (∀ x, a = some x → BB < x.block)
  | 8 => v = .pointer (some ⟨G, k * 2, none⟩)
  | _ => True
theorem F_kc_mono (BB G n k m : Nat) (q : ByteArray) (av : Option Addr) (cv : Nat) (y : KindV) : Facts (F_kc BB G n k m q av cv y) := ⟨by
  intro j v w w' h hb
  unfold F_kc at h ⊢
  split at h
  all_goals first
    | exact h
    | (obtain ⟨a, c, e, h1, h2, hi, hx⟩ := h; exact ⟨a, c, e, h1, h2, hi.below FieldAt.abides hb, hx⟩)
    | trivial⟩
/-- a kind in the making: its fields lie in another block than the row -/
def KindNew (G : Nat) (w : World) (i : Nat) (y : KindV) : Prop := w.cell? ⟨G, i, none⟩ = some (.string y.name) ∧ y.name.size ≤ 9223372036854775807 ∧ ∃ a c, w.cell? ⟨G, i + 1, none⟩ = some (.slice a y.fields.length c) ∧ y.fields.length ≤ c ∧ c ≤ 9223372036854775807 ∧ SlAt 3 FieldAt w a y.fields ∧ (∀ x, a = some x → G < x.block)
theorem flds_far {w : World} {a : Option Addr} {l : List FieldV} (h : SlAt 3 FieldAt w a l) {p : Addr} (hx : ∀ x, a = some x → x.block ≠ p.block) (v : Value) : SlAt 3 FieldAt (w.setCell p v) a l := fun h0 => by
  obtain ⟨x, e, h1, h2⟩ := h h0
  refine ⟨x, e, by simpa using h1, fun i hi => ?_⟩
  obtain ⟨k0, k1, k2, k3⟩ := h2 i hi
  have hb := block_of_add x (i * 3)
  refine ⟨?_, ?_, ?_, k3⟩
  · rw [cell_set_ne (fun e2 => hx x e (by rw [e2, hb]))]; exact k0
  · rw [cell_set_ne (fun e2 => hx x e (by rw [e2]; exact hb.symm))]; exact k1
  · rw [cell_set_ne (fun e2 => hx x e (by rw [e2]; exact hb.symm))]; exact k2
theorem KindNew.below {G : Nat} {w w' : World} {i : Nat} {y : KindV} (h : KindNew G w i y) (hb : Below w.heap.size w w') : KindNew G w' i y := by
  obtain ⟨h1, hs, a, c, h2, c1, c2, h3, h4⟩ := h
  exact ⟨cell_abides h1 hb, hs, a, c, cell_abides h2 hb, c1, c2, h3.below FieldAt.abides hb, h4⟩
theorem KindNew.far {G : Nat} {w : World} {i : Nat} {y : KindV} (h : KindNew G w i y) (j : Nat) (v : Value) (n1 : j ≠ i) (n2 : j ≠ i + 1) : KindNew G (w.setCell ⟨G, j, none⟩ v) i y := by
  obtain ⟨h1, hs, a, c, h2, c1, c2, h3, h4⟩ := h
  exact ⟨by rw [cell_set_ne (fun e => n1 (by injection e))]; exact h1, hs, a, c, by rw [cell_set_ne (fun e => n2 (by injection e))]; exact h2, c1, c2, flds_far h3 (fun x e => by have := h4 x e; show x.block ≠ G; omega) v, h4⟩
theorem KindNew.at {G : Nat} {w : World} {i : Nat} {y : KindV} (h : KindNew G w i y) : KindAt w ⟨G, i, none⟩ y := by
  obtain ⟨h1, hs, a, c, h2, c1, c2, h3, _⟩ := h
  exact ⟨h1, hs, a, c, h2, c1, c2, h3⟩
theorem KindNew.new {G : Nat} {w : World} {i : Nat} {y : KindV} {a : Option Addr} {c : Nat} {o1 o2 : Value} (hs : y.name.size ≤ 9223372036854775807) (h1 : w.cell? ⟨G, i, none⟩ = some o1) (h2 : w.cell? ⟨G, i + 1, none⟩ = some o2) (c1 : y.fields.length ≤ c) (c2 : c ≤ 9223372036854775807) (hi : SlAt 3 FieldAt w a y.fields) (hx0 : ∀ x, a = some x → G < x.block) :
    KindNew G ((w.setCell ⟨G, i, none⟩ (.string y.name)).setCell ⟨G, i + 1, none⟩ (.slice a y.fields.length c)) i y := by
  have hx : ∀ x, a = some x → x.block ≠ G := fun x e => by have := hx0 x e; omega
  have hne : (⟨G, i + 1, none⟩ : Addr) ≠ ⟨G, i, none⟩ := fun e => by injection e with _ e; omega
  refine ⟨?_, hs, a, c, ?_, c1, c2, flds_far (flds_far hi hx _) hx _, hx0⟩
  · rw [cell_set_ne hne]; exact cell_set_eq h1
  · exact cell_set_eq (u := o2) (by rw [cell_set_ne hne.symm]; exact h2)
set_option maxHeartbeats 8000000 in
theorem kind_Copy (l : List KindV) (a : Option Addr) (n cap : Nat) (hn : l.length = n) (h1 : n ≤ 3518437208780) (hv : ∀ y ∈ l, y.fields.length ≤ 4398046510976) (W : World) (hz : SlAt 2 KindAt W a l) :
    Calls Try.prog 27 #[.slice a n cap] W fun e w' => (∃ a, e = .returned (.slice a n n) ∧ SlAt 2 KindAt w' a l) ∧ Below W.heap.size W w' := by
  have HN := Lib.hid hn
  have HZ := Lib.hid hz
  have HV := Lib.hid hv
  clear hn hz hv
  go_enter Try.func27, Try.ntmps27
  go_wp2_with (at_make; (refine wpList_make_blk (z := .agg #[.string ByteArray.empty, .slice none 0 0]) (sz := 2) (bytes := 40) (e := 53) rfl _ _ 24 rfl (h2 := inf_kind3) (h1 := Try.underlying24) .i64 .i64 (n : Int) (n : Int) n rfl rfl rfl rfl ?b1 ?b2 ?_; (case b1 => omega); (case b2 => (unfold maxLen; omega))))
  intro w1 hblk hb1 hs1
  obtain ⟨G, hG⟩ : ∃ G, G = W.heap.size := ⟨_, rfl⟩
  rw [← hG] at hblk hs1 ⊢
  have HG := Lib.hid hG
  have HBLK := Lib.hid hblk
  have HB1 := Lib.hid hb1
  clear hG hblk hb1 hs1
  go_wp2_with fail
  go_loopg [4, 5, 11] n (fun gk v4 v5 vi wx => ∃ k : Nat, k ≤ n ∧ gk = n - k ∧ vi = .int .i64 k ∧ Blk wx G 53 (n * 2) ∧ (∀ j (h : j < l.length), j < k → KindNew G wx (j * 2) l[j]) ∧ Below W.heap.size W wx)
  case atStart => exact ⟨0, Nat.zero_le _, rfl, rfl, HBLK.out, fun j h h2 => absurd h2 (by omega), HB1.out⟩
  case round =>
    obtain ⟨k, hk, g2, rfl, hblk, hat, hb⟩ := hrel
    have G2 := Lib.hid g2
    have HB := Lib.hid hb
    have HBLK2 := Lib.hid hblk
    have HAT := Lib.hid hat
    have hgl := hblk.lt
    clear g2 hb hblk hat HBLK HB1
    by_cases hlt : k < n
    · obtain ⟨x, rfl, hx, hi⟩ := (HZ.out.below KindAt.abides HB.out) (by rw [HN.out]; omega)
      obtain ⟨c0, hnm, av, cv, c1, hc1, hc2, hv⟩ := hi k (by rw [HN.out]; exact hlt)
      obtain ⟨y, hy⟩ : ∃ y, y = l[k]'(by rw [HN.out]; exact hlt) := ⟨_, rfl⟩
      rw [← hy] at c0 c1 hv hnm hc1
      have hm : y.fields.length ≤ 4398046510976 := HV.out y (by rw [hy]; exact List.getElem_mem _)
      obtain ⟨m, hm2⟩ : ∃ m, m = y.fields.length := ⟨_, rfl⟩
      rw [← hm2] at c1 hm hc1
      obtain ⟨q, hq⟩ : ∃ q, q = y.name := ⟨_, rfl⟩
      rw [← hq] at c0
      have HY := Lib.hid hy
      have HM := Lib.hid hm2
      have HQ := Lib.hid hq
      have HNM := Lib.hid hnm
      clear hi hy hm2 hq hnm
      have hb0 := (Below.refl wr.heap.size wr).alloc (Nat.le_refl _) (.cells #[.string q, .slice av m cv] 53)
      have HI2 := Lib.hid (hv.below FieldAt.abides hb0)
      clear hv
      go_wp2_with fail
      have B0 : (wr.alloc (.cells #[.string q, .slice av m cv] 53)).cell? ⟨wr.heap.size, 0, none⟩ = some (.string q) := by simp
      have B1 : (wr.alloc (.cells #[.string q, .slice av m cv] 53)).cell? ⟨wr.heap.size, 1, none⟩ = some (.slice av m cv) := by simp
      refine wp_region_facts rfl 9 (by kernel_rfl) (F_kc wr.heap.size G n k m q av cv y) (F_kc_mono wr.heap.size G n k m q av cv y) ?_ ?_
      · refine ⟨?_, ?_, ?_, ?_, ?_, ?_, ?_, ?_, ?_, trivial⟩
        · intro vs w' F hb hd hF hl
          have e := (hF 3).trans (look_out _ 3 _ _ (by kernel_rfl))
          exact one_move _ rfl (by first | exact Or.inl rfl | exact Or.inr rfl) ⟨_, rfl, Below.refl _ _, e⟩
        · intro vs w' F hb hd hF hl
          have e := (hF 4).trans (look_out _ 4 _ _ (by kernel_rfl))
          exact one_move _ rfl (by first | exact Or.inl rfl | exact Or.inr rfl) ⟨_, rfl, Below.refl _ _, e⟩
        · intro vs w' F hb hd hF hl
          have e := (hF 5).trans (look_out _ 5 _ _ (by kernel_rfl))
          exact one_field _ _ _ rfl rfl _ _ e _ (fun w => by kernel_rfl) ⟨_, rfl, Below.refl _ _, rfl⟩
        · intro vs w' F hb hd hF hl
          have e := ((hF 18).trans (look_at _ 18 2 _ _ (by kernel_rfl) (by kernel_rfl) hl)).trans (dep_of (Fact := F_kc wr.heap.size G n k m q av cv y) hd 2 (by kernel_rfl))
          exact one_load _ _ rfl rfl _ _ e (cell_abides B0 hb) (by kernel_rfl) ⟨_, rfl, Below.refl _ _, rfl⟩
        · intro vs w' F hb hd hF hl
          have e := (hF 5).trans (look_out _ 5 _ _ (by kernel_rfl))
          exact one_field _ _ _ rfl rfl _ _ e _ (fun w => by kernel_rfl) ⟨_, rfl, Below.refl _ _, rfl⟩
        · intro vs w' F hb hd hF hl
          have e := ((hF 20).trans (look_at _ 20 4 _ _ (by kernel_rfl) (by kernel_rfl) hl)).trans (dep_of (Fact := F_kc wr.heap.size G n k m q av cv y) hd 4 (by kernel_rfl))
          exact one_load _ _ rfl rfl _ _ e (cell_abides B1 hb) (by kernel_rfl) ⟨_, rfl, Below.refl _ _, rfl⟩
        · intro vs w' F hb hd hF hl
          have e := (((hF 21).trans (look_at _ 21 5 _ _ (by kernel_rfl) (by kernel_rfl) hl)).trans (dep_of (Fact := F_kc wr.heap.size G n k m q av cv y) hd 5 (by kernel_rfl)))
          refine wpList_append_cells rfl _ _ 51 rfl w'.heap.size 50 (.agg #[.string ByteArray.empty, .int .i64 0, .int .i64 0]) 3 32 Try.underlying51 inf_fld3 rfl (by decide) (.slice none 0 0) 0 [] rfl (World.ownsRow_nil _ _ _ _) av m cv (fvals y.fields) e (by rw [fvals_len, HM.out]) (cells_flds (HI2.out.below FieldAt.abides hb)) (fvals_one _) (by unfold maxLen; omega) (by omega) (Nat.le_refl _) ?_
          intro v2 w2 hown hg hor
          have hsz := hb.size
          simp at hsz
          rw [List.nil_append, Nat.zero_add] at hown
          obtain ⟨a2, c2, rfl, hc1, hc2, hs2, hx2⟩ := flds_own HM.out.symm hown (flds_names HI2.out)
          exact ⟨_, rfl, (Below.refl _ _).grown hg (Nat.le_refl _) (fun g h => by cases h), a2, c2, rfl, hc1, hc2, hs2, fun x hx => by have := hx2 x hx; omega⟩
        · intro vs w' F hb hd hF hl
          obtain ⟨a2, c2, hv2, hr2⟩ := (dep_of (Fact := F_kc wr.heap.size G n k m q av cv y) hd 6 (by kernel_rfl))
          have e1 := (((hF 19).trans (look_at _ 19 3 _ _ (by kernel_rfl) (by kernel_rfl) hl)).trans (dep_of (Fact := F_kc wr.heap.size G n k m q av cv y) hd 3 (by kernel_rfl)))
          have e2 := ((hF 22).trans (look_at _ 22 6 _ _ (by kernel_rfl) (by kernel_rfl) hl)).trans hv2
          exact one_build _ _ rfl rfl #[(0, .string q), (1, .slice a2 m c2)] (parts2 e1 e2) (.agg #[.string q, .slice a2 m c2]) (fun w => by kernel_rfl) ⟨_, rfl, Below.refl _ _, a2, c2, rfl, hr2⟩
        · intro vs w' F hb hd hF hl
          have ex := (((hF 16).trans (look_at _ 16 0 _ _ (by kernel_rfl) (by kernel_rfl) hl)).trans (dep_of (Fact := F_kc wr.heap.size G n k m q av cv y) hd 0 (by kernel_rfl)))
          have ey := (((hF 17).trans (look_at _ 17 1 _ _ (by kernel_rfl) (by kernel_rfl) hl)).trans (dep_of (Fact := F_kc wr.heap.size G n k m q av cv y) hd 1 (by kernel_rfl)))
          exact one_index 24 _ _ rfl rfl (.slice (some ⟨G, 0, none⟩) n n) (.int .i64 k) (.pointer (some ⟨G, k * 2, none⟩)) ex ey (fun w => by clear hb hd hF hl ex ey; go_simp) ⟨_, rfl, Below.refl _ _, rfl⟩
      · intro vs W1 hl hb hI
        obtain ⟨a8, c8, i7, n8, m8, hi8, hx8⟩ := hI 7 (by omega)
        have i8 : vs.getD 8 undef = .pointer (some ⟨G, k * 2, none⟩) := hI 8 (by omega)
        obtain ⟨v0, v1, v2, v3, v4, v5, v6, v7, v8, v9, rfl⟩ := list10 hl
        replace i7 : v7 = .agg #[.string q, .slice a8 m c8] := i7
        replace i8 : v8 = .pointer (some ⟨G, k * 2, none⟩) := i8
        subst i7 i8
        have hblk1 := (HBLK2.out.below hb0).below hb
        obtain ⟨o1, ho1⟩ := hblk1.cell (k * 2) (by omega)
        obtain ⟨o2, ho2⟩ := hblk1.cell (k * 2 + 1) (by omega)
        have f1 := hblk1.frozen (k * 2)
        have f2 := hblk1.frozen (k * 2 + 1)
        have hbw : Below wr.heap.size wr W1 := hb0.trans (hb.mono (by simp))
        have hbn : Below W.heap.size W ((W1.setCell ⟨G, k * 2, none⟩ (.string q)).setCell ⟨G, k * 2 + 1, none⟩ (.slice a8 m c8)) := ((HB.out.trans (hbw.mono HB.out.size)).setCell (by rw [← HG.out]; exact Nat.le_refl _) _).setCell (by rw [← HG.out]; exact Nat.le_refl _) _
        have HBN := Lib.hid hbn
        have HBK := Lib.hid ((hblk1.set (k * 2) (.string q)).set (k * 2 + 1) (.slice a8 m c8))
        have hatn : ∀ j (h : j < l.length), j < k + 1 → KindNew G ((W1.setCell ⟨G, k * 2, none⟩ (.string q)).setCell ⟨G, k * 2 + 1, none⟩ (.slice a8 m c8)) (j * 2) l[j] := by
          intro j h hj
          by_cases hjk : j < k
          · exact (((HAT.out j h hjk).below hbw).far _ _ (by omega) (by omega)).far _ _ (by omega) (by omega)
          · obtain rfl : j = k := by omega
            rw [← HY.out, HQ.out, HM.out]
            exact KindNew.new HNM.out ho1 ho2 (by rw [← HM.out]; exact n8) m8 hi8 (fun x hx => by have := hx8 x hx; omega)
        have HATN := Lib.hid hatn
        clear hI hl hb hbw hbn hblk1 hatn hi8 hx8 n8 m8 HI2 hb0 B0 B1
        simp only [fillAll, Act.put, List.setIfInBounds_toArray, List.set_cons_succ, List.set_cons_zero]
        go_wp2
        go_roundg (n - (k + 1))
        case measure => rw [G2.out]; omega
        case rel => exact ⟨k + 1, hlt, rfl, by go_num, HBK.out, HATN.out, HBN.out⟩
    · have hke : k = n := by omega
      have HK := Lib.hid hke
      clear hke
      go_wp2_with fail
      go_ret
      refine ⟨⟨some ⟨G, 0, none⟩, rfl, fun h0 => ⟨_, rfl, hgl, fun i hi => ?_⟩⟩, HB.out⟩
      have := HAT.out i hi (by rw [HK.out, ← HN.out]; exact hi)
      rw [add_zero_block]; exact this.at
end Go.Proofs.Ytncnbfefciobcaa
end
/- world.Copy. -/
section
namespace Go.Proofs.Ytncnbfefciobcaa
open Go.ChangeShapes Go.WideShapes Go.ChangeAt Go.RowKit Go.Nm Go.Mem
set_option linter.unusedVariables false
theorem NoStr.same {w w' : World} {G : Nat} (h : NoStr w G) (e : w'.heap[G]? = w.heap[G]?) : NoStr w' G := fun i s => by
  rw [World.cell?_of_block (w := w) e]
  exact h i s
theorem own_ne {w : World} {B e size n g G : Nat} {v : Value} {xs : List Value} {cs : Array Value} {t : TypeId} {fr : Nat × Nat} (h : w.ownsRow B e size v n xs) (hg : v.ownBlock = some g) (hG : w.heap[G]? = some (.cells cs t fr)) (hne : e ≠ t) : g ≠ G := fun e2 => by
  subst e2
  rcases h.2 with ⟨rfl, _⟩ | ⟨g', cap, cur, rfl, _, hh, _⟩
  · cases hg
  · injection hg with hg
    have hg : g' = g := hg
    subst hg
    rw [hG] at hh
    injection hh with hh
    injection hh with _ h2 _
    exact hne h2.symm
theorem cell_gb1 {w w' : World} {G : Nat} {p : Addr} {v : Value} (hc : w.cell? p = some v) (hg : w.grownBy w' (some G)) (hp : p.block ≠ G) : w'.cell? p = some v := by
  rw [World.cell?_of_block (w := w) (hg.block _ (World.block_lt_of_cell? _ _ hc) (fun e => hp (by injection e)))]
  exact hc
theorem flds_gb {w w' : World} {G : Nat} {a : Option Addr} {l : List FieldV} (h : SlAt 3 FieldAt w a l) (hn : NoStr w G) (hg : w.grownBy w' (some G)) : SlAt 3 FieldAt w' a l := fun h0 => by
  obtain ⟨x, e, h1, h2⟩ := h h0
  refine ⟨x, e, Nat.lt_of_lt_of_le h1 hg.size, fun i hi => ?_⟩
  have hne : x.block ≠ G := by
    intro e2
    obtain ⟨c0, _⟩ := h2 0 (by omega)
    have hs := World.cell?_spot c0
    rw [Nat.zero_mul] at c0 hs
    have e3 : x.add 0 = ⟨G, x.off, none⟩ := by
      obtain ⟨xb, xo, sp⟩ := x
      have e4 : xb = G := e2
      subst e4
      have : sp = none := by simpa [Addr.add] using hs
      subst this
      rfl
    rw [e3] at c0
    exact hn _ _ c0
  obtain ⟨k0, k1, k2, k3⟩ := h2 i hi
  exact ⟨cell_gb1 k0 hg (by rw [block_of_add]; exact hne), cell_gb1 k1 hg (by show (x.add (i * 3)).block ≠ G; rw [block_of_add]; exact hne), cell_gb1 k2 hg (by show (x.add (i * 3)).block ≠ G; rw [block_of_add]; exact hne), k3⟩
theorem kinds_gb {w w' : World} {G : Nat} {a : Option Addr} {l : List KindV} (h : SlAt 2 KindAt w a l) (hn : NoStr w G) (hg : w.grownBy w' (some G)) : SlAt 2 KindAt w' a l := fun h0 => by
  obtain ⟨x, e, h1, h2⟩ := h h0
  refine ⟨x, e, Nat.lt_of_lt_of_le h1 hg.size, fun i hi => ?_⟩
  have hne : x.block ≠ G := by
    intro e2
    obtain ⟨c0, _⟩ := h2 0 (by omega)
    have hs := World.cell?_spot c0
    rw [Nat.zero_mul] at c0 hs
    have e3 : x.add 0 = ⟨G, x.off, none⟩ := by
      obtain ⟨xb, xo, sp⟩ := x
      have e4 : xb = G := e2
      subst e4
      have : sp = none := by simpa [Addr.add] using hs
      subst this
      rfl
    rw [e3] at c0
    exact hn _ _ c0
  obtain ⟨k0, k1, a2, c2, k2, k3, k4, k5⟩ := h2 i hi
  exact ⟨cell_gb1 k0 hg (by rw [block_of_add]; exact hne), k1, a2, c2, cell_gb1 k2 hg (by show (x.add (i * 2)).block ≠ G; rw [block_of_add]; exact hne), k3, k4, flds_gb k5 hn hg⟩
theorem own_gb {w w' : World} {B e size n G : Nat} {v : Value} {xs : List Value} {cs : Array Value} {t : TypeId} {fr : Nat × Nat} (h : w.ownsRow B e size v n xs) (hG : w.heap[G]? = some (.cells cs t fr)) (hne : e ≠ t) (hg : w.grownBy w' (some G)) : w'.ownsRow B e size v n xs :=
  own_grown h hg (fun g hv e2 => by
    injection e2 with e2
    subst e2
    rcases h.2 with ⟨rfl, _⟩ | ⟨g', cap, cur, rfl, _, hh, _⟩
    · cases hv
    · injection hv with hv
      have hv : g' = g := hv
      subst hv
      rw [hG] at hh
      injection hh with hh
      injection hh with _ h2 _
      exact hne h2.symm)
theorem nostr_row {w : World} {G : Nat} {cs : Array Value} {t : TypeId} {fr : Nat × Nat} (h : w.heap[G]? = some (.cells cs t fr)) (hs : ∀ (j : Nat) (s : ByteArray), cs[j]? ≠ some (Value.string s)) : NoStr w G := fun i s => by
  rw [cell_of_row _ _ _ _ _ _ h]; exact hs i s
theorem nostr_made (n j : Nat) (s : ByteArray) : (madeCells #[Value.int .i64 0, .int .i64 0, .slice none 0 0] n)[j]? ≠ some (Value.string s) := by
  unfold madeCells
  rw [Array.getElem?_map]
  cases (Array.range n)[j]? with
  | none => simp
  | some i =>
    show some ((#[Value.int .i64 0, .int .i64 0, .slice none 0 0] : Array Value)[i % 3]!) ≠ _
    rcases (show i % 3 = 0 ∨ i % 3 = 1 ∨ i % 3 = 2 by omega) with e | e | e <;> rw [e] <;> simp
theorem inf_item : (Try.prog.info? 70).map (fun i => (i.zero, i.size, i.bytes)) = some (some (.agg #[.int .i64 0, .int .i64 0, .slice none 0 0]), 3, 40) := by kernel_rfl
/-- an item in the making -/
def ItemNew (G S : Nat) (w : World) (i : Nat) (y : ItemV) : Prop := w.cell? ⟨G, i, none⟩ = some (.int .i64 y.n) ∧ w.cell? ⟨G, i + 1, none⟩ = some (.int .i64 y.gen) ∧ ∃ a c, w.cell? ⟨G, i + 2, none⟩ = some (.slice a y.comps.length c) ∧ Up S (fun w => SlAt 2 CompAt w a y.comps) w
theorem ItemNew.below {G S : Nat} {w w' : World} {i : Nat} {y : ItemV} (h : ItemNew G S w i y) (hb : Below w.heap.size w w') : ItemNew G S w' i y := by
  obtain ⟨h1, h2, a, c, h3, h4⟩ := h
  exact ⟨cell_abides h1 hb, cell_abides h2 hb, a, c, cell_abides h3 hb, h4.below hb⟩
theorem ItemNew.far {G S : Nat} {w : World} {i : Nat} {y : ItemV} (hGS : G < S) (h : ItemNew G S w i y) (j : Nat) (v : Value) (n1 : j ≠ i) (n2 : j ≠ i + 1) (n3 : j ≠ i + 2) : ItemNew G S (w.setCell ⟨G, j, none⟩ v) i y := by
  obtain ⟨h1, h2, a, c, h3, h4⟩ := h
  exact ⟨by rw [cell_set_ne (fun e => n1 (by injection e))]; exact h1, by rw [cell_set_ne (fun e => n2 (by injection e))]; exact h2, a, c, by rw [cell_set_ne (fun e => n3 (by injection e))]; exact h3, h4.set _ _ hGS⟩
theorem ItemNew.at_ {G S : Nat} {w : World} {i : Nat} {y : ItemV} (h : ItemNew G S w i y) : ItemAt w ⟨G, i, none⟩ y := by
  obtain ⟨h1, h2, a, c, h3, h4⟩ := h
  exact ⟨h1, h2, a, c, h3, h4.now⟩
theorem ItemNew.new {G S : Nat} {w : World} {i : Nat} {y : ItemV} {a : Option Addr} {c : Nat} {o1 o2 o3 : Value} (hGS : G < S) (h1 : w.cell? ⟨G, i, none⟩ = some o1) (h2 : w.cell? ⟨G, i + 1, none⟩ = some o2) (h3 : w.cell? ⟨G, i + 2, none⟩ = some o3) (hi : Up S (fun w => SlAt 2 CompAt w a y.comps) w) :
    ItemNew G S (((w.setCell ⟨G, i, none⟩ (.int .i64 y.n)).setCell ⟨G, i + 1, none⟩ (.int .i64 y.gen)).setCell ⟨G, i + 2, none⟩ (.slice a y.comps.length c)) i y := by
  have n1 : (⟨G, i + 1, none⟩ : Addr) ≠ ⟨G, i, none⟩ := fun e => by injection e with _ e; omega
  have n2 : (⟨G, i + 2, none⟩ : Addr) ≠ ⟨G, i, none⟩ := fun e => by injection e with _ e; omega
  have n3 : (⟨G, i + 2, none⟩ : Addr) ≠ ⟨G, i + 1, none⟩ := fun e => by injection e with _ e; omega
  refine ⟨?_, ?_, a, c, ?_, ((hi.set _ _ hGS).set _ _ hGS).set _ _ hGS⟩
  · rw [cell_set_ne n2, cell_set_ne n1]; exact cell_set_eq h1
  · rw [cell_set_ne n3]; exact cell_set_eq (u := o2) (by rw [cell_set_ne n1.symm]; exact h2)
  · exact cell_set_eq (u := o3) (by rw [cell_set_ne n3.symm, cell_set_ne n2.symm]; exact h3)
theorem own_low {w : World} {B C e size n : Nat} {v : Value} {xs : List Value} (h : w.ownsRow B e size v n xs) (hc : C ≤ B) : w.ownsRow C e size v n xs := by
  obtain ⟨h1, h2⟩ := h
  rcases h2 with h2 | ⟨g, cap, cur, hv, hg, r⟩
  · exact ⟨h1, Or.inl h2⟩
  · exact ⟨h1, Or.inr ⟨g, cap, cur, hv, Nat.le_trans hc hg, r⟩⟩
theorem own_sl {w : World} {B e size n : Nat} {v : Value} {xs : List Value} (h : w.ownsRow B e size v n xs) : ∃ a c, v = .slice a n c := by
  rcases h.2 with ⟨rfl, h0⟩ | ⟨g, cap, cur, rfl, _⟩
  · exact ⟨none, 0, by rw [h0]⟩
  · exact ⟨_, _, rfl⟩
theorem gb_below {a w w' : World} {g : Nat} (h : a.grownBy w (some g)) (hb : Below w.heap.size w w') : a.grownBy w' (some g) := ⟨hb.os.trans h.os, hb.tape.trans h.tape, hb.output.trans h.output, Nat.le_trans h.size hb.size, fun k hk hne => (hb.block k (Nat.lt_of_lt_of_le hk h.size)).trans (h.block k hk hne)⟩
theorem gb_set {a w : World} {g : Nat} (h : a.grownBy w (some g)) (i : Nat) (v : Value) : a.grownBy (w.setCell ⟨g, i, none⟩ v) (some g) := ⟨h.os, h.tape, h.output, by rw [World.size_setCell]; exact h.size, fun k hk hne => (Below.heap_setCell w ⟨g, i, none⟩ v k (fun e => hne (by rw [e]))).trans (h.block k hk hne)⟩
theorem nostr_zero (j : Nat) (s : ByteArray) : (#[Value.slice none 0 0, .slice none 0 0, .slice none 0 0] : Array Value)[j]? ≠ some (Value.string s) := by
  match j with
  | 0 => simp
  | 1 => simp
  | 2 => simp
  | j + 3 => simp
theorem made_row {w : World} {B G ni : Nat} (hrow : w.ownsRow B 70 3 (.slice (some ⟨G, 0, none⟩) ni ni) ni (madeCells #[Value.int .i64 0, .int .i64 0, .slice none 0 0] (ni * 3)).toList) : ∃ cs, w.heap[G]? = some (.cells cs 70 (0, 0)) ∧ cs.size = ni * 3 ∧ ∀ (j : Nat) (s : ByteArray), cs[j]? ≠ some (Value.string s) := by
  rcases hrow.2 with ⟨h, _⟩ | ⟨g', cap, cur, hv, _, hh, _, _, hsz, htk⟩
  · cases h
  · injection hv with h1 _ h3
    injection h1 with h1
    injection h1 with h1
    subst h1 h3
    refine ⟨cur, hh, hsz, fun j s => ?_⟩
    have h5 : cur.toList = (madeCells #[Value.int .i64 0, .int .i64 0, .slice none 0 0] (ni * 3)).toList := by
      rw [← htk, List.take_of_length_le (by rw [Array.length_toList, hsz]; exact Nat.le_refl _)]
    rw [Array.toList_inj.1 h5]
    exact nostr_made _ _ _
/-- a copy of a world: its generations and its row of items are the call's own, the components lie beyond S -/
def WCopyPost (y : WorldV) (nk ng ni : Nat) (W : World) (e : Ending) (w' : World) : Prop := ∃ ak vg G S, e = .returned (.agg #[.slice ak nk nk, vg, .slice (some ⟨G, 0, none⟩) ni ni]) ∧ SlAt 2 KindAt w' ak y.kinds ∧
  w'.ownsRow W.heap.size 3 1 vg ng (vints .i64 y.gens) ∧ (∀ g, vg.ownBlock = some g → g < S ∧ NoStr w' g) ∧ W.heap.size ≤ G ∧ G < S ∧ Blk w' G 70 (ni * 3) ∧ (∀ j (h : j < y.items.length), ItemNew G S w' (j * 3) y.items[j]) ∧ Below W.heap.size W w'
theorem WCopyPost.world {y : WorldV} {W w' : World} {e : Ending} (h : WCopyPost y y.kinds.length y.gens.length y.items.length W e w') (hk : y.kinds.length ≤ 1048576) : (∃ v, e = .returned v ∧ WorldIn w' v y) ∧ Below W.heap.size W w' := by
  obtain ⟨ak, vg, G, S, rfl, h1, h2, _, _, _, h6, h7, h8⟩ := h
  refine ⟨⟨_, rfl, ?_⟩, h8⟩
  have hv : ∃ ag cg, vg = .slice ag y.gens.length cg := by
    rcases h2.2 with ⟨rfl, h0⟩ | ⟨g, cap, cur, rfl, _⟩
    · exact ⟨none, 0, by rw [h0]⟩
    · exact ⟨_, _, rfl⟩
  obtain ⟨ag, cg, rfl⟩ := hv
  refine ⟨ak, _, ag, cg, _, _, rfl, h1, IntsAt.of_own h2 rfl, fun _ => ⟨_, rfl, h6.lt, fun i hi => ?_⟩, Nat.le_refl _, by omega⟩
  rw [Addr.add_lit, Nat.zero_add]
  exact (h7 i hi).at_
theorem list11 {α : Type} {vs : List α} (h : vs.length = 11) : ∃ x0 x1 x2 x3 x4 x5 x6 x7 x8 x9 x10, vs = [x0, x1, x2, x3, x4, x5, x6, x7, x8, x9, x10] := by
  obtain ⟨x0, t0, rfl, h0⟩ := cons_of h
  obtain ⟨x1, t1, rfl, h1⟩ := cons_of h0
  obtain ⟨x2, t2, rfl, h2⟩ := cons_of h1
  obtain ⟨x3, t3, rfl, h3⟩ := cons_of h2
  obtain ⟨x4, t4, rfl, h4⟩ := cons_of h3
  obtain ⟨x5, t5, rfl, h5⟩ := cons_of h4
  obtain ⟨x6, t6, rfl, h6⟩ := cons_of h5
  obtain ⟨x7, t7, rfl, h7⟩ := cons_of h6
  obtain ⟨x8, t8, rfl, h8⟩ := cons_of h7
  obtain ⟨x9, t9, rfl, h9⟩ := cons_of h8
  obtain ⟨x10, t10, rfl, h10⟩ := cons_of h9
  exact ⟨x0, x1, x2, x3, x4, x5, x6, x7, x8, x9, x10, by rw [List.eq_nil_of_length_eq_zero h10]⟩
def F_wc1 (WW : Nat) (ak : Option Addr) (nk ck : Nat) (ag : Option Addr) (ng cg : Nat) (ai : Option Addr) (ni ci : Nat) (y : WorldV) (jq : Nat) (v : Value) (w : World) : Prop :=
  match jq with
  | 0 => v = .pointer (some ⟨WW, 0, none⟩)
  | 1 => v = .slice ak nk ck
  | 2 => ∃ a, v = .slice a nk nk ∧ SlAt 2 KindAt w a y.kinds
  | 3 => v = .pointer (some ⟨WW, 1, none⟩)
  | 4 => v = .slice ag ng cg
  | 5 => ∃ u, v = u ∧ w.ownsRow WW 3 1 u ng (vints .i64 y.gens) ∧ (∀ g, u.ownBlock = some g → g < w.heap.size ∧ NoStr w g)
  | 6 => v = .pointer (some ⟨WW, 2, none⟩)
  | 7 => v = .slice ai ni ci
  | 8 => v = .int .i64 (ni : Int)
  | 9 => ∃ b, v = .slice (some ⟨b, 0, none⟩) ni ni ∧ WW + 2 ≤ b ∧ w.ownsRow WW 70 3 (.slice (some ⟨b, 0, none⟩) ni ni) ni (madeCells #[Value.int .i64 0, .int .i64 0, .slice none 0 0] (ni * 3)).toList
  | 10 => ∃ a u b, v = .agg #[.slice a nk nk, u, .slice (some ⟨b, 0, none⟩) ni ni] ∧ SlAt 2 KindAt w a y.kinds ∧ w.ownsRow WW 3 1 u ng (vints .i64 y.gens) ∧ (∀ g, u.ownBlock = some g → g < w.heap.size ∧ NoStr w g) ∧ WW + 2 ≤ b ∧ w.ownsRow WW 70 3 (.slice (some ⟨b, 0, none⟩) ni ni) ni (madeCells #[Value.int .i64 0, .int .i64 0, .slice none 0 0] (ni * 3)).toList
  | 11 => ∃ x, v = .pointer (some ⟨x, 0, none⟩) ∧ WW + 2 ≤ x ∧ x < w.heap.size ∧ w.heap[x]? = some (.cells #[.slice none 0 0, .slice none 0 0, .slice none 0 0] 27 (0, 0))
  | _ => True
theorem F_wc1_mono (WW : Nat) (ak : Option Addr) (nk ck : Nat) (ag : Option Addr) (ng cg : Nat) (ai : Option Addr) (ni ci : Nat) (y : WorldV) : Facts (F_wc1 WW ak nk ck ag ng cg ai ni ci y) := ⟨by
  intro jq v w w' h hb
  unfold F_wc1 at h ⊢
  split at h
  all_goals first
    | exact h
    | (obtain ⟨a, e, h1⟩ := h; exact ⟨a, e, h1.below KindAt.abides hb⟩)
    | (obtain ⟨u, e, h1, h2⟩ := h; exact ⟨u, e, own_below h1 hb, fun g hg => ⟨Nat.lt_of_lt_of_le (h2 g hg).1 hb.size, (h2 g hg).2.below (h2 g hg).1 hb⟩⟩)
    | (obtain ⟨b, e, h1, h2⟩ := h; exact ⟨b, e, h1, own_below h2 hb⟩)
    | (obtain ⟨a, u, b, e, h1, h2, h3, h4, h5⟩ := h; exact ⟨a, u, b, e, h1.below KindAt.abides hb, own_below h2 hb, fun g hg => ⟨Nat.lt_of_lt_of_le (h3 g hg).1 hb.size, (h3 g hg).2.below (h3 g hg).1 hb⟩, h4, own_below h5 hb⟩)
    | (obtain ⟨x, e, h1, h2, h3⟩ := h; exact ⟨x, e, h1, Nat.lt_of_lt_of_le h2 hb.size, heap_below h3 hb⟩)
    | trivial⟩
def F_wc5 (BB X G SS i ni : Nat) (kn kg : Int) (av : Option Addr) (nv cv : Nat) (it : ItemV) (jq : Nat) (v : Value) (w : World) : Prop :=
  match jq with
  | 0 => v = .pointer (some ⟨X, 2, none⟩)
  | 1 => v = .slice (some ⟨G, 0, none⟩) ni ni
  | 2 => v = .int .i64 i
  | 3 => v = .pointer (some ⟨BB, 0, none⟩)
  | 4 => v = .agg #[.int .i64 kn, .int .i64 kg]
  | 5 => v = .pointer (some ⟨BB, 2, none⟩)
  | 6 => v = .slice av nv cv
  | 7 => ∃ a, v = .slice a nv nv ∧ Up SS (fun w => SlAt 2 CompAt w a it.comps) w
  | 8 => ∃ a, v = .agg #[.int .i64 kn, .int .i64 kg, .slice a nv nv] ∧ Up SS (fun w => SlAt 2 CompAt w a it.comps) w
  | 9 => v = .pointer (some ⟨G, i * 3, none⟩)
  | _ => True
theorem F_wc5_mono (BB X G SS i ni : Nat) (kn kg : Int) (av : Option Addr) (nv cv : Nat) (it : ItemV) : Facts (F_wc5 BB X G SS i ni kn kg av nv cv it) := ⟨by
  intro jq v w w' h hb
  unfold F_wc5 at h ⊢
  split at h
  all_goals first
    | exact h
    | (obtain ⟨a, e, h1⟩ := h; exact ⟨a, e, h1.below hb⟩)
    | trivial⟩

set_option maxHeartbeats 16000000 in
set_option maxRecDepth 20000 in
theorem copy_world (y : WorldV) (ak : Option Addr) (nk ck : Nat) (ag : Option Addr) (ng cg : Nat) (ai : Option Addr) (ni ci : Nat) (hnk : nk = y.kinds.length) (hng : ng = y.gens.length) (hni : ni = y.items.length) (W : World)
    (hzk : SlAt 2 KindAt W ak y.kinds) (hzg : IntsAt .i64 W ag y.gens) (hzi : SlAt 3 ItemAt W ai y.items) (s1 : nk ≤ 1048576) (s2 : ng ≤ 1048576) (s3 : ni ≤ 1048576)
    (s4 : ∀ x ∈ y.items, x.comps.length ≤ 1048576 ∧ ∀ c ∈ x.comps, c.vals.length ≤ 1048576) (hkf : ∀ k ∈ y.kinds, k.fields.length ≤ 1048576) :
    Calls Try.prog 8 #[.agg #[.slice ak nk ck, .slice ag ng cg, .slice ai ni ci]] W (WCopyPost y nk ng ni W) := by
  have CK := Lib.hid (fun w' (hb : Below W.heap.size W w') => kind_Copy y.kinds ak nk ck hnk.symm (by omega) (fun k hk => by have := hkf k hk; omega) w' (hzk.below KindAt.abides hb))
  have CG := Lib.hid (fun w' (hb : Below W.heap.size W w') => clone_intsN y.gens ag ng cg hng.symm (by omega) w' (hzg.below hb))
  have NK := Lib.hid hnk
  have NG := Lib.hid hng
  have NI := Lib.hid hni
  have ZI := Lib.hid hzi
  have S4 := Lib.hid s4
  obtain ⟨o1, ho1⟩ : ∃ o : Obj, o = .cells #[.slice ak nk ck, .slice ag ng cg, .slice ai ni ci] 27 (0, 0) := ⟨_, rfl⟩
  obtain ⟨o2, ho2⟩ : ∃ o : Obj, o = .cells #[.slice none 0 0, .slice none 0 0, .slice none 0 0] 27 (0, 0) := ⟨_, rfl⟩
  have hw1 := row_first W o1 o2
  have hw2 := row_second W o1 o2
  have hb2 := ((Below.refl W.heap.size W).alloc (Nat.le_refl _) o1).alloc (by simp) o2
  rw [ho1, ho2] at hw1 hw2 hb2
  have HW1 := Lib.hid hw1
  have HW2 := Lib.hid hw2
  have HB2 := Lib.hid hb2
  clear hnk hng hni hzk hzg hzi s4 ho1 ho2 o1 o2 hw1 hw2 hb2 hkf
  obtain ⟨i0, hi0, hz0, hz1, hz2⟩ := info_parts inf_item
  have I0 := Lib.hid (And.intro hi0 (And.intro hz0 (And.intro hz1 hz2)))
  clear hi0 hz0 hz1 hz2
  go_enter Try.func8, Try.ntmps8
  go_wp2_with fail
  have E0 := Lib.hid (cell_of_row _ _ 0 _ _ _ HW1.out)
  have E1 := Lib.hid (cell_of_row _ _ 1 _ _ _ HW1.out)
  have E2 := Lib.hid (cell_of_row _ _ 2 _ _ _ HW1.out)
  refine wp_region_facts_t rfl 12 (by kernel_rfl) (F_wc1 W.heap.size ak nk ck ag ng cg ai ni ci y) (F_wc1_mono W.heap.size ak nk ck ag ng cg ai ni ci y) ?_ ?_
  · refine ⟨?_, ?_, ?_, ?_, ?_, ?_, ?_, ?_, ?_, ?_, ?_, ?_, trivial⟩
    · intro vs w' F hb hd hF hl hT
      have e := (hF 1).trans (look_out _ 1 _ _ (by kernel_rfl))
      exact one_field _ _ _ rfl rfl _ _ e (0) (fun w => by kernel_rfl) ⟨_, rfl, Below.refl _ _, rfl⟩
    · intro vs w' F hb hd hF hl hT
      have e := ((hF 6).trans (look_at _ 6 0 _ _ (by kernel_rfl) (by kernel_rfl) hl)).trans (dep_of (Fact := F_wc1 W.heap.size ak nk ck ag ng cg ai ni ci y) hd 0 (by kernel_rfl))
      exact one_load _ _ rfl rfl _ _ e (cell_abides E0.out hb) (by kernel_rfl) ⟨_, rfl, Below.refl _ _, rfl⟩
    · intro vs w' F hb hd hF hl hT
      have ea := (((hF 7).trans (look_at _ 7 1 _ _ (by kernel_rfl) (by kernel_rfl) hl)).trans (dep_of (Fact := F_wc1 W.heap.size ak nk ck ag ng cg ai ni ci y) hd 1 (by kernel_rfl)))
      refine one_call _ _ rfl rfl (enters_of Try.func27 (by kernel_rfl) rfl) #[.slice ak nk ck] (eval1 ea) ?_
      refine (CK.out w' (HB2.out.trans (hb.mono (by simp; omega)))).mono ?_
      rintro e2 w2 ⟨⟨a2, rfl, hs2⟩, hb2⟩
      exact ⟨_, rfl, _, rfl, hb2, a2, rfl, hs2⟩
    · intro vs w' F hb hd hF hl hT
      have e := (hF 1).trans (look_out _ 1 _ _ (by kernel_rfl))
      exact one_field _ _ _ rfl rfl _ _ e (1) (fun w => by kernel_rfl) ⟨_, rfl, Below.refl _ _, rfl⟩
    · intro vs w' F hb hd hF hl hT
      have e := ((hF 9).trans (look_at _ 9 3 _ _ (by kernel_rfl) (by kernel_rfl) hl)).trans (dep_of (Fact := F_wc1 W.heap.size ak nk ck ag ng cg ai ni ci y) hd 3 (by kernel_rfl))
      exact one_load _ _ rfl rfl _ _ e (cell_abides E1.out hb) (by kernel_rfl) ⟨_, rfl, Below.refl _ _, rfl⟩
    · intro vs w' F hb hd hF hl hT
      have ea := (((hF 10).trans (look_at _ 10 4 _ _ (by kernel_rfl) (by kernel_rfl) hl)).trans (dep_of (Fact := F_wc1 W.heap.size ak nk ck ag ng cg ai ni ci y) hd 4 (by kernel_rfl)))
      refine one_call _ _ rfl rfl (enters_of Try.func24 (by kernel_rfl) rfl) #[.slice ag ng cg] (eval1 ea) ?_
      refine (CG.out w' (HB2.out.trans (hb.mono (by simp; omega)))).mono ?_
      rintro e2 w2 ⟨u2, rfl, hs2, hb2, hns⟩
      have hsz := hb.size
      simp at hsz
      exact ⟨_, rfl, _, rfl, hb2, u2, rfl, own_low hs2 (by omega), fun g hg => ⟨(own_lt hs2 g hg).2, hns g hg⟩⟩
    · intro vs w' F hb hd hF hl hT
      have e := (hF 1).trans (look_out _ 1 _ _ (by kernel_rfl))
      exact one_field _ _ _ rfl rfl _ _ e (2) (fun w => by kernel_rfl) ⟨_, rfl, Below.refl _ _, rfl⟩
    · intro vs w' F hb hd hF hl hT
      have e := ((hF 12).trans (look_at _ 12 6 _ _ (by kernel_rfl) (by kernel_rfl) hl)).trans (dep_of (Fact := F_wc1 W.heap.size ak nk ck ag ng cg ai ni ci y) hd 6 (by kernel_rfl))
      exact one_load _ _ rfl rfl _ _ e (cell_abides E2.out hb) (by kernel_rfl) ⟨_, rfl, Below.refl _ _, rfl⟩
    · intro vs w' F hb hd hF hl hT
      have e := ((hF 13).trans (look_at _ 13 7 _ _ (by kernel_rfl) (by kernel_rfl) hl)).trans (dep_of (Fact := F_wc1 W.heap.size ak nk ck ag ng cg ai ni ci y) hd 7 (by kernel_rfl))
      exact rg_len _ 25 70 rfl rfl Try.underlying25 ai (ni) (ci) e ⟨_, rfl, Below.refl _ _, rfl⟩
    · intro vs w' F hb hd hF hl hT
      have ea := (((hF 14).trans (look_at _ 14 8 _ _ (by kernel_rfl) (by kernel_rfl) hl)).trans (dep_of (Fact := F_wc1 W.heap.size ak nk ck ag ng cg ai ni ci y) hd 8 (by kernel_rfl)))
      have hsz := hb.size
      simp at hsz
      refine wpList_make_full _ rfl _ _ _ rfl W.heap.size 70 i0 _ 3 Try.underlying25 I0.out.1 I0.out.2.1 I0.out.2.2.1 .i64 .i64 (ni : Int) (ni : Int) ni ea ea rfl rfl (by rw [I0.out.2.2.2]; omega) (by unfold maxLen; omega) (by omega) ?_
      intro w2 hown2 hgr2
      exact ⟨_, rfl, ⟨hgr2.os, hgr2.tape, hgr2.output, hgr2.size, fun k hk => hgr2.block k hk (by simp)⟩, _, rfl, by omega, hown2⟩
    · intro vs w' F hb hd hF hl hT
      obtain ⟨a2, e2, hs2⟩ := (dep_of (Fact := F_wc1 W.heap.size ak nk ck ag ng cg ai ni ci y) hd 2 (by kernel_rfl))
      obtain ⟨u2, e5, hs5, hl5⟩ := (dep_of (Fact := F_wc1 W.heap.size ak nk ck ag ng cg ai ni ci y) hd 5 (by kernel_rfl))
      obtain ⟨b2, e9, hw9, hs9⟩ := (dep_of (Fact := F_wc1 W.heap.size ak nk ck ag ng cg ai ni ci y) hd 9 (by kernel_rfl))
      have g2 := ((hF 8).trans (look_at _ 8 2 _ _ (by kernel_rfl) (by kernel_rfl) hl)).trans e2
      have g5 := ((hF 11).trans (look_at _ 11 5 _ _ (by kernel_rfl) (by kernel_rfl) hl)).trans e5
      have g9 := ((hF 15).trans (look_at _ 15 9 _ _ (by kernel_rfl) (by kernel_rfl) hl)).trans e9
      obtain ⟨sa, sc, rfl⟩ := own_sl hs5
      exact one_build _ _ rfl rfl #[(0, .slice a2 nk nk), (1, .slice sa ng sc), (2, .slice (some ⟨b2, 0, none⟩) ni ni)] (parts3 g2 g5 g9) (.agg #[.slice a2 nk nk, .slice sa ng sc, .slice (some ⟨b2, 0, none⟩) ni ni]) (fun w => by kernel_rfl) ⟨_, rfl, Below.refl _ _, a2, _, b2, rfl, hs2, hs5, hl5, hw9, hs9⟩
    · intro vs w' F hb hd hF hl hT
      have hsz := hb.size
      simp at hsz
      refine one_alloc_agg _ rfl rfl (.agg #[.slice none 0 0, .slice none 0 0, .slice none 0 0]) #[.slice none 0 0, .slice none 0 0, .slice none 0 0] (by kernel_rfl) rfl ?_
      exact ⟨_, rfl, (Below.refl _ _).alloc (Nat.le_refl _) _, _, rfl, by omega, by simp, heap_alloc_new _ _⟩
  · intro vs8 W8 hl hb hI
    obtain ⟨ak2, vg, G, hv10, hk, hg, hgl, hWG, hrow⟩ := hI 10 (by omega)
    obtain ⟨X, hv11, hWX, hXl, hX⟩ := hI 11 (by omega)
    obtain ⟨sa, sc, rfl⟩ := own_sl hg
    obtain ⟨x0, x1, x2, x3, x4, x5, x6, x7, x8, x9, x10, x11, x12, hvs⟩ := list13 hl
    subst hvs
    replace hv10 : x10 = .agg #[.slice ak2 nk nk, .slice sa ng sc, .slice (some ⟨G, 0, none⟩) ni ni] := hv10
    replace hv11 : x11 = .pointer (some ⟨X, 0, none⟩) := hv11
    subst hv10 hv11
    have hR8 := heap_below HW2.out hb
    have hP8 := heap_below HW1.out hb
    have hbW8 := HB2.out.trans (hb.mono (by simp; omega))
    obtain ⟨cg0, hG8, hGs, hGn⟩ := made_row hrow
    have hGX : G ≠ X := by
      intro e
      subst e
      rw [hG8] at hX
      injection hX with hX
      injection hX with _ h2 _
      exact absurd h2 (by decide)
    have HG8 := Lib.hid hG8
    have HX := Lib.hid hX
    have HR8 := Lib.hid hR8
    have HP8 := Lib.hid hP8
    have HBW8 := Lib.hid hbW8
    have HGS := Lib.hid hGs
    have HGN := Lib.hid hGn
    have HK := Lib.hid hk
    have HGG := Lib.hid hg
    have HGL := Lib.hid hgl
    clear hI hl hb hrow hG8 hX hP8 hR8 hbW8 hGs hGn hk hg hgl HW1 HW2 HB2 E0 E1 E2 CK CG
    simp only [fillAll, Act.put, List.setIfInBounds_toArray, List.set_cons_succ, List.set_cons_zero, List.drop_succ_cons, List.drop_zero]
    go_wp2_with (refine wpList_store_rowP rfl 27 (.tmp 3) (.tmp 16) rfl X #[.slice ak2 nk nk, .slice sa ng sc, .slice (some ⟨G, 0, none⟩) ni ni] rfl rfl _ _ HX.out (by kernel_rfl) rfl (ones3 _ _ _ rfl rfl rfl) ?_; intro W9 hput; have HPUT := Lib.hid hput; have x2 : W9.cell? ⟨X, 2, none⟩ = some (.slice (some ⟨G, 0, none⟩) ni ni) := cell_of_row _ _ 2 _ _ _ hput.here; have y2 : W9.cell? ⟨W.heap.size, 2, none⟩ = some (.slice ai ni ci) := cell_of_row _ _ 2 _ _ _ ((hput.else_ _ (by omega)).trans HP8.out); clear hput)
    have hput := HPUT.out
    have hg89 : W8.grownBy W9 (some X) := ⟨hput.os, hput.tape, hput.output, by rw [hput.size]; exact Nat.le_refl _, fun k hk hne => hput.else_ k (fun e => hne (by rw [e]))⟩
    have hP9 := (hput.else_ _ (by omega)).trans HP8.out
    have hR9 := (hput.else_ _ (by omega)).trans HR8.out
    have hG9 := (hput.else_ _ hGX).trans HG8.out
    have hX9 := hput.here
    have hk9 := kinds_gb HK.out (nostr_row HX.out nostr_zero) hg89
    have hg9 := own_gb HGG.out HX.out (by decide) hg89
    have hbW9 := HBW8.out.trans (hput.below (by omega))
    have hs9 := hput.size
    have hGlt := lt_of_heap hG9
    have HP9 := Lib.hid hP9
    have HR9 := Lib.hid hR9
    have HG9 := Lib.hid hG9
    have HX9 := Lib.hid hX9
    have HK9 := Lib.hid hk9
    have HGG9 := Lib.hid hg9
    have HBW9 := Lib.hid hbW9
    have HGL9 := Lib.hid (show ∀ g, (Value.slice sa ng sc).ownBlock = some g → g < W9.heap.size ∧ NoStr W9 g from fun g h => ⟨by rw [hs9]; exact (HGL.out g h).1, (HGL.out g h).2.same (hput.else_ g (own_ne HGG.out h HX.out (by decide)))⟩)
    have HBLK := Lib.hid (show Blk W9 G 70 (ni * 3) from ⟨_, hG9, HGS.out⟩)
    clear hput hg89 hP9 hR9 hG9 hX9 hk9 hg9 hbW9 hs9 HG8 HX HR8 HP8 HBW8 HK HGG HGL HPUT
    go_loopg [20, 4, 5] ni (fun gk v20 _ _ wx => ∃ i : Nat, i ≤ ni ∧ gk = ni - i ∧ v20 = .int .i64 i ∧ Blk wx G 70 (ni * 3) ∧ (∀ j (h : j < y.items.length), j < i → ItemNew G W9.heap.size wx (j * 3) y.items[j]) ∧ W9.grownBy wx (some G))
    case atStart => exact ⟨0, Nat.zero_le _, rfl, rfl, HBLK.out, fun j h h2 => absurd h2 (by omega), World.grownBy.refl _ _⟩
    case round =>
      clear HBLK x2 y2
      obtain ⟨i, i1, i2, rfl, hblk, hat, hgr⟩ := hrel
      have I2 := Lib.hid i2
      have HAT := Lib.hid hat
      have HBLK := Lib.hid hblk
      have HGR := Lib.hid hgr
      have hbr : Below W.heap.size W wr := HBW9.out.grown hgr HBW9.out.size (fun r h => by injection h with h; omega)
      have HBR := Lib.hid hbr
      have hszr := hgr.size
      have x2 := cell_gb1 (cell_of_row _ _ 2 _ _ _ HX9.out) hgr (show X ≠ G from fun e => hGX e.symm)
      clear i2 hat hblk hgr
      by_cases hi : i < ni
      · obtain ⟨x, rfl, _, _⟩ := ZI.out (by rw [← NI.out]; omega)
        obtain ⟨xb, xo, rfl, av, cv, hcl, hco⟩ := item_cells (ZI.out.below ItemAt.abides hbr) i (by rw [← NI.out]; exact hi)
        have hsm := S4.out _ (List.getElem_mem (by rw [← NI.out]; exact hi) : y.items[i]'(by rw [← NI.out]; exact hi) ∈ y.items)
        obtain ⟨it, hitd⟩ : ∃ it, it = y.items[i]'(by rw [← NI.out]; exact hi) := ⟨_, rfl⟩
        rw [← hitd] at hcl hco hsm
        obtain ⟨nv, hnv⟩ : ∃ nv, nv = it.comps.length := ⟨_, rfl⟩
        rw [← hnv] at hcl hsm
        obtain ⟨kn, hkn⟩ : ∃ kn, kn = it.n := ⟨_, rfl⟩
        obtain ⟨kg, hkg⟩ : ∃ kg, kg = it.gen := ⟨_, rfl⟩
        rw [← hkn, ← hkg] at hcl
        have e0 := hcl.at 0 (by simp)
        have e1 := hcl.at 1 (by simp)
        have e2 := hcl.at 2 (by simp)
        simp only [List.getElem_cons_zero, List.getElem_cons_succ, Nat.add_zero] at e0 e1 e2
        have hro := new_row wr #[.int .i64 kn, .int .i64 kg, .slice av nv cv] 70
        have q0 := hro.at 0 (by simp)
        have q1 := hro.at 1 (by simp)
        have q2 := hro.at 2 (by simp)
        simp only [List.getElem_cons_zero, List.getElem_cons_succ, Nat.zero_add] at q0 q1 q2
        have hqr : CellsK (wr.alloc (.cells #[.int .i64 kn, .int .i64 kg, .slice av nv cv] 70 (0, 0))) wr.heap.size 0 [.int .i64 kn, .int .i64 kg] := fun j u hu => by
          match j with
          | 0 => cases hu; exact q0
          | 1 => cases hu; exact q1
          | j + 2 => simp at hu
        have hbA : Below wr.heap.size wr (wr.alloc (.cells #[.int .i64 kn, .int .i64 kg, .slice av nv cv] 70 (0, 0))) := (Below.refl _ _).alloc (Nat.le_refl _) _
        have CC := Lib.hid (fun w' hb => copy_comps it.comps av nv cv hnv.symm hsm.1 hsm.2 w' (SlAt.below CompAt.abides (hco.below CompAt.abides hbA) hb))
        have Q0 := Lib.hid q0
        have Q1 := Lib.hid q1
        have Q2 := Lib.hid q2
        have QR := Lib.hid hqr
        have X2 := Lib.hid (cell_abides x2 hbA)
        have HIT := Lib.hid hitd
        have HKN := Lib.hid hkn
        have HKG := Lib.hid hkg
        have HNV := Lib.hid hnv
        have HBA := Lib.hid hbA
        clear hcl hco hsm hitd hnv hkn hkg hro q0 q1 q2 hqr hbA hbr
        go_wp2_with fail
        refine wp_region_facts_t rfl 10 (by kernel_rfl) (F_wc5 wr.heap.size X G W9.heap.size i ni kn kg av nv cv it) (F_wc5_mono wr.heap.size X G W9.heap.size i ni kn kg av nv cv it) ?_ ?_
        · refine ⟨?_, ?_, ?_, ?_, ?_, ?_, ?_, ?_, ?_, ?_, trivial⟩
          · intro vs w' F hb hd hF hl hT
            have e := (hF 3).trans (look_out _ 3 _ _ (by kernel_rfl))
            exact one_field _ _ _ rfl rfl _ _ e (2) (fun w => by kernel_rfl) ⟨_, rfl, Below.refl _ _, rfl⟩
          · intro vs w' F hb hd hF hl hT
            have e := ((hF 25).trans (look_at _ 25 0 _ _ (by kernel_rfl) (by kernel_rfl) hl)).trans (dep_of (Fact := F_wc5 wr.heap.size X G W9.heap.size i ni kn kg av nv cv it) hd 0 (by kernel_rfl))
            exact one_load _ _ rfl rfl _ _ e (cell_abides X2.out hb) (by kernel_rfl) ⟨_, rfl, Below.refl _ _, rfl⟩
          · intro vs w' F hb hd hF hl hT
            have e := (hF 4).trans (look_out _ 4 _ _ (by kernel_rfl))
            exact one_move _ rfl (by first | exact Or.inl rfl | exact Or.inr rfl) ⟨_, rfl, Below.refl _ _, e⟩
          · intro vs w' F hb hd hF hl hT
            have e := (hF 5).trans (look_out _ 5 _ _ (by kernel_rfl))
            exact one_field _ _ _ rfl rfl _ _ e (0) (fun w => by kernel_rfl) ⟨_, rfl, Below.refl _ _, rfl⟩
          · intro vs w' F hb hd hF hl hT
            have e := ((hF 28).trans (look_at _ 28 3 _ _ (by kernel_rfl) (by kernel_rfl) hl)).trans (dep_of (Fact := F_wc5 wr.heap.size X G W9.heap.size i ni kn kg av nv cv it) hd 3 (by kernel_rfl))
            exact rg_load 55 _ rfl rfl (wr.heap.size) (0) [.int .i64 kn, .int .i64 kg] e (QR.out.below hb) _ Try.underlying55 rfl (by kernel_rfl) ⟨_, rfl, Below.refl _ _, rfl⟩
          · intro vs w' F hb hd hF hl hT
            have e := (hF 5).trans (look_out _ 5 _ _ (by kernel_rfl))
            exact one_field _ _ _ rfl rfl _ _ e (2) (fun w => by kernel_rfl) ⟨_, rfl, Below.refl _ _, rfl⟩
          · intro vs w' F hb hd hF hl hT
            have e := ((hF 30).trans (look_at _ 30 5 _ _ (by kernel_rfl) (by kernel_rfl) hl)).trans (dep_of (Fact := F_wc5 wr.heap.size X G W9.heap.size i ni kn kg av nv cv it) hd 5 (by kernel_rfl))
            exact one_load _ _ rfl rfl _ _ e (cell_abides Q2.out hb) (by kernel_rfl) ⟨_, rfl, Below.refl _ _, rfl⟩
          · intro vs w' F hb hd hF hl hT
            have ea := (((hF 31).trans (look_at _ 31 6 _ _ (by kernel_rfl) (by kernel_rfl) hl)).trans (dep_of (Fact := F_wc5 wr.heap.size X G W9.heap.size i ni kn kg av nv cv it) hd 6 (by kernel_rfl)))
            refine one_call _ _ rfl rfl (enters_of Try.func28 (by kernel_rfl) rfl) #[.slice av nv cv] (eval1 ea) ?_
            have hsz := hb.size
            simp at hsz
            refine (CC.out w' hb).mono ?_
            rintro e2 w2 ⟨a2, rfl, hs2, hb2⟩
            exact ⟨_, rfl, _, rfl, hb2, a2, rfl, hs2.lower (by omega)⟩
          · intro vs w' F hb hd hF hl hT
            obtain ⟨a2, e7, hs2⟩ := (dep_of (Fact := F_wc5 wr.heap.size X G W9.heap.size i ni kn kg av nv cv it) hd 7 (by kernel_rfl))
            have g4 := (((hF 29).trans (look_at _ 29 4 _ _ (by kernel_rfl) (by kernel_rfl) hl)).trans (dep_of (Fact := F_wc5 wr.heap.size X G W9.heap.size i ni kn kg av nv cv it) hd 4 (by kernel_rfl)))
            have g7 := ((hF 32).trans (look_at _ 32 7 _ _ (by kernel_rfl) (by kernel_rfl) hl)).trans e7
            exact one_build _ _ rfl rfl #[(0, .agg #[.int .i64 kn, .int .i64 kg]), (1, .slice a2 nv nv)] (parts2 g4 g7) (.agg #[.int .i64 kn, .int .i64 kg, .slice a2 nv nv]) (fun w => by kernel_rfl) ⟨_, rfl, Below.refl _ _, a2, rfl, hs2⟩
          · intro vs w' F hb hd hF hl hT
            have ex := ((hF 26).trans (look_at _ 26 1 _ _ (by kernel_rfl) (by kernel_rfl) hl)).trans (dep_of (Fact := F_wc5 wr.heap.size X G W9.heap.size i ni kn kg av nv cv it) hd 1 (by kernel_rfl))
            have ey := ((hF 27).trans (look_at _ 27 2 _ _ (by kernel_rfl) (by kernel_rfl) hl)).trans (dep_of (Fact := F_wc5 wr.heap.size X G W9.heap.size i ni kn kg av nv cv it) hd 2 (by kernel_rfl))
            exact one_index 25 _ _ rfl rfl (.slice (some ⟨G, 0, none⟩) ni ni) (.int .i64 i) (.pointer (some ⟨G, i * 3, none⟩)) ex ey (fun w => by have h := rg_idx Try.underlying25 (show (Try.prog.info? 70).map (·.size) = some 3 by kernel_rfl) (G) (0) (ni) (ni) (i) (by omega) w; rw [Nat.zero_add] at h; exact h) ⟨_, rfl, Below.refl _ _, rfl⟩
        · intro vs8 W8 hl hb hI
          obtain ⟨a8, hv8, hup⟩ := hI 8 (by omega)
          have hv9 : vs8.getD 9 undef = .pointer (some ⟨G, i * 3, none⟩) := hI 9 (by omega)
          obtain ⟨z0, z1, z2, z3, z4, z5, z6, z7, z8, z9, z10, hvs⟩ := list11 hl
          subst hvs
          replace hv8 : z8 = .agg #[.int .i64 kn, .int .i64 kg, .slice a8 nv nv] := hv8
          replace hv9 : z9 = .pointer (some ⟨G, i * 3, none⟩) := hv9
          subst hv8 hv9
          have hbw := HBA.out.trans (hb.mono (by simp))
          have hblk1 := HBLK.out.below hbw
          obtain ⟨o1, ho1⟩ := hblk1.cell (i * 3) (by omega)
          obtain ⟨o2, ho2⟩ := hblk1.cell (i * 3 + 1) (by omega)
          obtain ⟨o3, ho3⟩ := hblk1.cell (i * 3 + 2) (by omega)
          have f1 := hblk1.frozen (i * 3)
          have f2 := hblk1.frozen (i * 3 + 1)
          have f3 := hblk1.frozen (i * 3 + 2)
          have HBN := Lib.hid (gb_set (gb_set (gb_set (gb_below HGR.out hbw) (i * 3) (.int .i64 kn)) (i * 3 + 1) (.int .i64 kg)) (i * 3 + 2) (.slice a8 nv nv))
          have HBK := Lib.hid (((hblk1.set (i * 3) (.int .i64 kn)).set (i * 3 + 1) (.int .i64 kg)).set (i * 3 + 2) (.slice a8 nv nv))
          have hatn : ∀ j (h : j < y.items.length), j < i + 1 → ItemNew G W9.heap.size (((W8.setCell ⟨G, i * 3, none⟩ (.int .i64 kn)).setCell ⟨G, i * 3 + 1, none⟩ (.int .i64 kg)).setCell ⟨G, i * 3 + 2, none⟩ (.slice a8 nv nv)) (j * 3) y.items[j] := by
            intro j h hj
            by_cases hjk : j < i
            · exact (((((HAT.out j h hjk).below hbw).far hGlt (i * 3) _ (by omega) (by omega) (by omega)).far hGlt (i * 3 + 1) _ (by omega) (by omega) (by omega)).far hGlt (i * 3 + 2) _ (by omega) (by omega) (by omega))
            · obtain rfl : j = i := by omega
              rw [← HIT.out, HKN.out, HKG.out, HNV.out]
              exact ItemNew.new hGlt ho1 ho2 ho3 hup
          have HATN := Lib.hid hatn
          clear hI hl hb hbw hblk1 hatn hup CC Q0 Q1 Q2 QR X2 x2 e0 e1 e2
          simp only [fillAll, Act.put, List.setIfInBounds_toArray, List.set_cons_succ, List.set_cons_zero, List.drop_succ_cons, List.drop_zero]
          go_wp2
          go_roundg (ni - (i + 1))
          case measure => rw [I2.out]; omega
          case rel => exact ⟨i + 1, hi, rfl, by go_num, HBK.out, HATN.out, HBN.out⟩
      · obtain rfl : ni = i := by omega
        have hgr := HGR.out
        have HGRE := Lib.hid hgr
        have hX10 := (hgr.block _ (lt_of_heap HX9.out) (fun e => hGX (by injection e with e; exact e.symm))).trans HX9.out
        have hR10 := (hgr.block _ (lt_of_heap HR9.out) (fun e => by injection e with e; omega)).trans HR9.out
        have hk10 := kinds_gb HK9.out (nostr_row HG9.out HGN.out) hgr
        have hg10 := own_gb HGG9.out HG9.out (by decide) hgr
        have e0 := cell_of_row _ _ 0 _ _ _ hX10
        have e1 := cell_of_row _ _ 1 _ _ _ hX10
        have e2 := cell_of_row _ _ 2 _ _ _ hX10
        have HX10 := Lib.hid hX10
        have HR10 := Lib.hid hR10
        have HK10 := Lib.hid hk10
        have HG10 := Lib.hid hg10
        clear hgr hX10 hR10 hk10 hg10 x2
        go_wp2_with (refine wpList_store_rowP rfl 27 (.tmp 2) (.tmp 36) rfl (W.heap.size + 1) #[.slice ak2 nk nk, .slice sa ng sc, .slice (some ⟨G, 0, none⟩) ni ni] rfl rfl _ _ HR10.out (by kernel_rfl) rfl (ones3 _ _ _ rfl rfl rfl) ?_; intro W11 hput; have HPUT := Lib.hid hput; clear hput)
        have hput := HPUT.out
        have hg11 : wr.grownBy W11 (some (W.heap.size + 1)) := ⟨hput.os, hput.tape, hput.output, by rw [hput.size]; exact Nat.le_refl _, fun k hk hne => hput.else_ k (fun e => hne (by rw [e]))⟩
        have hk11 := kinds_gb HK10.out (nostr_row HR10.out nostr_zero) hg11
        refine bodyPost_ret (results_cell_row Try.results8 _ _ (W.heap.size + 1) 27 _ (0, 0) _ rfl hput.here Try.underlying27 rfl (by kernel_rfl)) rfl ⟨ak2, _, G, W9.heap.size, rfl, hk11, own_gb HG10.out HR10.out (by decide) hg11, (fun g h => ⟨(HGL9.out g h).1, (HGL9.out g h).2.same ((hput.else_ g (own_ne HG10.out h HR10.out (by decide))).trans (HGRE.out.block g (HGL9.out g h).1 (fun e => own_ne HGG9.out h HG9.out (by decide) (by injection e))))⟩), by omega, hGlt, ?_, ?_, HBR.out.trans (hput.below (by omega))⟩
        · obtain ⟨cs, h1, h2⟩ := HBLK.out
          exact ⟨cs, (hput.else_ _ (by omega)).trans h1, h2⟩
        · intro j h
          obtain ⟨h1, h2, a, c, h3, h4⟩ := HAT.out j h (by rw [NI.out]; exact h)
          exact ⟨cell_gb1 h1 hg11 (by show G ≠ _; omega), cell_gb1 h2 hg11 (by show G ≠ _; omega), a, c, cell_gb1 h3 hg11 (by show G ≠ _; omega), h4.grown hg11 (fun r hr => by injection hr with hr; omega)⟩
theorem world_Copy (y : WorldV) (v : Value) (W : World) (hv : WorldIn W v y) (hsm : SmallW y) (hkf : ∀ k ∈ y.kinds, k.fields.length ≤ 1048576) : Calls Try.prog 8 #[v] W (WCopyPost y y.kinds.length y.gens.length y.items.length W) := by
  obtain ⟨ak, ck, ag, cg, ai, ci, rfl, hzk, hzg, hzi, hk1, hk2⟩ := hv
  obtain ⟨s1, s2, s3, s4⟩ := hsm
  exact copy_world y ak _ ck ag _ cg ai _ ci rfl rfl rfl W hzk hzg hzi s1 s2 s3 s4 hkf
end Go.Proofs.Ytncnbfefciobcaa
end
