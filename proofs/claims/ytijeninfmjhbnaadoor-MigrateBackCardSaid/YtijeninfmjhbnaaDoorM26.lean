/- Lemmas for the law MigrateBack: FitTup, KindFitU, KindFitdU. No conditions. -/
import Derived.Test.YtijeninfmjhbnaaDoorM06
import Derived.Test.YtijeninfmjhbnaaDoorM04
import Derived.Test.YtijeninfmjhbnaaDoorM05
import Derived.Shelf.Abstract
import Derived.Test.YtijeninfmjhbnaaDoorM07
/- What Fit and Fitted give back, as tuples. -/
section
namespace Go.Proofs.YtijeninfmjhbnaaDoor
open Go.ChangeShapes Go.WideShapes Go.ChangeAt Go.RowKit Go.Nm Go.Mem
set_option linter.unusedVariables false
def FitS (k : KindV) (vals : List Int) (v : Value) (w : World) : Prop := (fitE k vals ≠ 0 → v = .slice none 0 0) ∧ (fitE k vals = 0 → ∃ a c, v = .slice a vals.length c ∧ IntsAt .i64 w a (fitL k.fields vals))
def FitT (k : KindV) (vals : List Int) (v : Value) (w : World) : Prop := ∃ u, v = .tuple #[u, .int .i64 (fitE k vals)] ∧ FitS k vals u w
theorem FitS.below {k : KindV} {vals : List Int} {v : Value} {w w' : World} (h : FitS k vals v w) (hb : Below w.heap.size w w') : FitS k vals v w' :=
  ⟨h.1, fun h0 => by obtain ⟨a, c, e, hi⟩ := h.2 h0; exact ⟨a, c, e, hi.below hb⟩⟩
theorem FitT.below {k : KindV} {vals : List Int} {v : Value} {w w' : World} (h : FitT k vals v w) (hb : Below w.heap.size w w') : FitT k vals v w' := by
  obtain ⟨u, e, hs⟩ := h; exact ⟨u, e, hs.below hb⟩
theorem FitPost.tuple {k : KindV} {vals : List Int} {W w' : World} {e : Ending} (h : FitPost k vals W e w') : ∃ v, e = .returned v ∧ FitT k vals v w' := by
  obtain ⟨h1, h2, _⟩ := h
  by_cases h0 : fitE k vals = 0
  · obtain ⟨a, c, rfl, hi⟩ := h2 h0
    exact ⟨_, rfl, _, by rw [h0], fun h => absurd h0 h, fun _ => ⟨a, c, rfl, hi⟩⟩
  · exact ⟨_, h1 h0, _, rfl, fun _ => rfl, fun h => absurd h h0⟩
theorem fitL_len {k : KindV} {vals : List Int} (h : fitE k vals = 0) : (fitL k.fields vals).length = vals.length := by
  unfold fitE at h
  unfold fitL
  rw [List.length_zipWith]
  split at h
  · contradiction
  · split at h
    · cases h
    · omega
end Go.Proofs.YtijeninfmjhbnaaDoor
end
/- kind.Fit: the values lie in new memory. -/
section
namespace Go.Proofs.YtijeninfmjhbnaaDoor
open Go.ChangeShapes Go.WideShapes Go.ChangeAt Go.RowKit Go.Nm Go.Mem
set_option linter.unusedVariables false
def FitPostU (k : KindV) (vals : List Int) (W : World) (e : Ending) (w' : World) : Prop := (fitE k vals ≠ 0 → e = .returned (.tuple #[.slice none 0 0, .int .i64 (fitE k vals)])) ∧
  (fitE k vals = 0 → ∃ a c, e = .returned (.tuple #[.slice a vals.length c, .int .i64 0]) ∧ IntsAt .i64 w' a (fitL k.fields vals) ∧ ∀ x, a = some x → W.heap.size ≤ x.block) ∧ Below W.heap.size W w'
set_option maxHeartbeats 8000000 in
theorem kind_FitU (k : KindV) (a : Option Addr) (n cap : Nat) (vals : List Int) (av : Option Addr) (m cv : Nat) (hn : k.fields.length = n) (hm : vals.length = m) (hm9 : m ≤ 9223372036854775807) (hnm : k.name.size ≤ 9223372036854775807) (hnc : n ≤ cap) (hcm : cap ≤ 9223372036854775807) (W : World) (hz : SlAt 3 FieldAt W a k.fields) (hv : IntsAt .i64 W av vals) :
    Calls Tryd.prog 45 #[.agg #[.string k.name, .slice a n cap], .slice av m cv] W (FitPostU k vals W) := by
  have hb0 := (Below.refl W.heap.size W).alloc (Nat.le_refl _) (.cells #[.string k.name, .slice a n cap] 43)
  have hc := kind_One k a n cap hn hnm hnc hcm (W.alloc (.cells #[.string k.name, .slice a n cap] 43)) (hz.below FieldAt.abides hb0)
  have x0 := heap_alloc_new W (.cells #[.string k.name, .slice a n cap] 43)
  have HB0 := Lib.hid hb0
  have HX0 := Lib.hid x0
  have HN := Lib.hid hn
  have HM := Lib.hid hm
  have HZ := Lib.hid hz
  have HV := Lib.hid hv
  obtain ⟨nm, l⟩ := k
  simp only at hc HX0 HB0 hnm HN HZ ⊢
  obtain ⟨e1, he1⟩ : ∃ e1, e1 = kindE ⟨nm, l⟩ := ⟨_, rfl⟩
  rw [← he1] at hc
  have HE := Lib.hid he1
  have HC := Lib.hid hc
  clear hb0 hc x0 hn hm hz hv he1
  by_cases he : e1 = 0
  · subst he
    obtain ⟨hn8, hok⟩ := kind_ok HE.out.symm
    simp only at hn8 hok
    rw [HN.out] at hn8
    have HOK := Lib.hid hok
    clear hok
    go_enter Tryd.func45, Tryd.ntmps45
    go_wp2_with fail
    refine HC.out.mono ?_
    rintro e w1 ⟨rfl, hb1⟩
    have hx1 := heap_below HX0.out hb1
    have c1 : w1.cell? ⟨W.heap.size, 1, none⟩ = some (.slice a n cap) := by rw [cell_of_row _ _ 1 _ _ _ hx1]; rfl
    have hbw := HB0.out.trans (hb1.mono (by simp))
    have HB1 := Lib.hid hbw
    have HX1 := Lib.hid hx1
    have hs1 := hbw.size
    clear hb1 hx1 hbw HC HX0 HB0
    by_cases hmn : m = n
    · subst hmn
      have HFE := Lib.hid (show fitE ⟨nm, l⟩ vals = 0 by unfold fitE; rw [if_neg (by rw [← HE.out]; simp), if_neg (by simp only; rw [HM.out, HN.out]; simp)])
      have t0 : ((m : Int) != (m : Int)) = false := by simp
      go_wp2_with (at_make; go_must (refine wpList_make_rowB rfl _ _ 23 rfl 3 .i64 8 Tryd.underlying23 (by kernel_rfl) _ _ _ _ m rfl rfl rfl rfl ?b1 ?b2 ?_))
      case b1 => omega
      case b2 => unfold maxLen; omega
      intro w2 hrow hb2 hs2
      have c2 : w2.cell? ⟨W.heap.size, 1, none⟩ = some (.slice a m cap) := by rw [cell_of_row _ _ 1 _ _ _ (heap_below HX1.out hb2)]; rfl
      obtain ⟨G, hG⟩ : ∃ G, G = w1.heap.size := ⟨_, rfl⟩
      rw [← hG] at hrow hs2 ⊢
      have hWG : W.heap.size ≤ G := by rw [hG]; exact HB1.out.size
      have HROW := Lib.hid hrow
      have HB2 := Lib.hid (HB1.out.trans (hb2.mono HB1.out.size))
      clear hrow hb2 hG c1 hs2
      go_wp2_with fail
      clear c2
      go_loopg [8, 9, 27] m (fun gk v8 v9 vi wx => ∃ (i : Nat) (out : List Int), i ≤ m ∧ gk = m - i ∧ vi = .int .i64 i ∧ out.length = m ∧ (∀ j (h1 : j < l.length) (h2 : j < vals.length), j < i → out.getD j 0 = nearV l[j] vals[j]) ∧ RowB wx G 3 .i64 out ∧ Below W.heap.size W wx)
      case atStart => exact ⟨0, List.replicate m 0, Nat.zero_le _, rfl, rfl, by simp, fun j _ _ h => absurd h (by omega), HROW.out, HB2.out⟩
      case round =>
        obtain ⟨i, out, hi, g2, rfl, hol, hat, hrow, hb⟩ := hrel
        have G2 := Lib.hid g2
        have HOL := Lib.hid hol
        have HAT := Lib.hid hat
        have HROW2 := Lib.hid hrow
        have HB := Lib.hid hb
        have hbs := hb.size
        have hgl := hrow.lt
        clear g2 hol hat hrow hb HROW HB2
        by_cases hlt : i < m
        · obtain ⟨x, rfl, hx, hix⟩ := (HZ.out.below FieldAt.abides HB.out) (by rw [HN.out]; omega)
          obtain ⟨z, rfl, hzl, hiz⟩ := (HV.out.below HB.out) (by rw [HM.out]; omega)
          obtain ⟨k0, k1, k2, k3⟩ := hix i (by rw [HN.out]; exact hlt)
          have kv := hiz i (by rw [HM.out]; exact hlt)
          obtain ⟨y, hy⟩ : ∃ y, y = l[i]'(by rw [HN.out]; exact hlt) := ⟨_, rfl⟩
          rw [← hy] at k0 k1 k2 k3
          obtain ⟨u, hu⟩ : ∃ u, u = vals.getD i 0 := ⟨_, rfl⟩
          rw [← hu] at kv
          have hoky : okF y = true := by rw [hy]; exact HOK.out i (by rw [HN.out]; exact hlt)
          have HNR := Lib.hid (near_at y u hoky k3)
          have HY := Lib.hid hy
          have HU := Lib.hid hu
          clear hix hiz hy hu hoky k3
          go_wp2_with fail
          have hb0 := (Below.refl wr.heap.size wr).alloc (Nat.le_refl _) (.cells #[.string y.name, .int .i64 y.bits, .int .i64 y.low] 40)
          have B0 := heap_alloc_new wr (.cells #[.string y.name, .int .i64 y.bits, .int .i64 y.low] 40)
          have B1 := cell_abides kv hb0
          refine wp_region_facts rfl 9 (by kernel_rfl) (F_fit wr.heap.size G i m cv u z y) (F_fit_mono wr.heap.size G i m cv u z y) ?_ ?_
          · refine ⟨?_, ?_, ?_, ?_, ?_, ?_, ?_, ?_, ?_, trivial⟩
            · intro vs w' F hb hd hF hl
              have e := (hF 7).trans (look_out _ 7 _ _ (by kernel_rfl))
              exact one_move _ rfl (by first | exact Or.inl rfl | exact Or.inr rfl) ⟨_, rfl, Below.refl _ _, e⟩
            · intro vs w' F hb hd hF hl
              have e := (hF 8).trans (look_out _ 8 _ _ (by kernel_rfl))
              exact one_move _ rfl (by first | exact Or.inl rfl | exact Or.inr rfl) ⟨_, rfl, Below.refl _ _, e⟩
            · intro vs w' F hb hd hF hl
              have e := ((hF 9).trans (look_out _ 9 _ _ (by kernel_rfl)))
              exact one_load_row 40 _ rfl rfl wr.heap.size #[.string y.name, .int .i64 y.bits, .int .i64 y.low] 40 (0, 0) e (heap_below B0 hb) _ Tryd.underlying40 rfl (by kernel_rfl) ⟨_, rfl, Below.refl _ _, rfl⟩
            · intro vs w' F hb hd hF hl
              have e := (hF 1).trans (look_out _ 1 _ _ (by kernel_rfl))
              exact one_move _ rfl (by first | exact Or.inl rfl | exact Or.inr rfl) ⟨_, rfl, Below.refl _ _, e⟩
            · intro vs w' F hb hd hF hl
              have e := (hF 8).trans (look_out _ 8 _ _ (by kernel_rfl))
              exact one_move _ rfl (by first | exact Or.inl rfl | exact Or.inr rfl) ⟨_, rfl, Below.refl _ _, e⟩
            · intro vs w' F hb hd hF hl
              have ex := (((hF 35).trans (look_at _ 35 3 _ _ (by kernel_rfl) (by kernel_rfl) hl)).trans (dep_of (Fact := F_fit wr.heap.size G i m cv u z y) hd 3 (by kernel_rfl)))
              have ey := (((hF 36).trans (look_at _ 36 4 _ _ (by kernel_rfl) (by kernel_rfl) hl)).trans (dep_of (Fact := F_fit wr.heap.size G i m cv u z y) hd 4 (by kernel_rfl)))
              exact one_index 23 _ _ rfl rfl (.slice (some z) m cv) (.int .i64 i) (.pointer (some (z.add i))) ex ey (fun w => by clear hb hd hF hl ex ey; go_simp) ⟨_, rfl, Below.refl _ _, rfl⟩
            · intro vs w' F hb hd hF hl
              have e := (((hF 37).trans (look_at _ 37 5 _ _ (by kernel_rfl) (by kernel_rfl) hl)).trans (dep_of (Fact := F_fit wr.heap.size G i m cv u z y) hd 5 (by kernel_rfl)))
              exact one_load _ _ rfl rfl _ _ e (cell_abides B1 hb) (by kernel_rfl) ⟨_, rfl, Below.refl _ _, rfl⟩
            · intro vs w' F hb hd hF hl
              have e1 := (((hF 34).trans (look_at _ 34 2 _ _ (by kernel_rfl) (by kernel_rfl) hl)).trans (dep_of (Fact := F_fit wr.heap.size G i m cv u z y) hd 2 (by kernel_rfl)))
              have e2 := (((hF 38).trans (look_at _ 38 6 _ _ (by kernel_rfl) (by kernel_rfl) hl)).trans (dep_of (Fact := F_fit wr.heap.size G i m cv u z y) hd 6 (by kernel_rfl)))
              refine one_call _ _ rfl rfl (enters_of Tryd.func67 (by kernel_rfl) rfl) #[.agg #[.string y.name, .int .i64 y.bits, .int .i64 y.low], .int .i64 u] (eval2 e1 e2) ?_
              refine (HNR.out w').mono ?_
              rintro e3 w2 ⟨rfl, hb2⟩
              exact ⟨_, rfl, _, rfl, hb2, rfl⟩
            · intro vs w' F hb hd hF hl
              have ex := (((hF 32).trans (look_at _ 32 0 _ _ (by kernel_rfl) (by kernel_rfl) hl)).trans (dep_of (Fact := F_fit wr.heap.size G i m cv u z y) hd 0 (by kernel_rfl)))
              have ey := (((hF 33).trans (look_at _ 33 1 _ _ (by kernel_rfl) (by kernel_rfl) hl)).trans (dep_of (Fact := F_fit wr.heap.size G i m cv u z y) hd 1 (by kernel_rfl)))
              exact one_index 23 _ _ rfl rfl (.slice (some ⟨G, 0, none⟩) m m) (.int .i64 i) (.pointer (some ⟨G, i, none⟩)) ex ey (fun w => by clear hb hd hF hl ex ey; go_simp) ⟨_, rfl, Below.refl _ _, rfl⟩
          · intro vs W1 hl hb hI
            have i7 : vs.getD 7 undef = .int .i64 (nearV y u) := hI 7 (by omega)
            have i8 : vs.getD 8 undef = .pointer (some ⟨G, i, none⟩) := hI 8 (by omega)
            obtain ⟨v0, v1, v2, v3, v4, v5, v6, v7, v8, v9, rfl⟩ := list10 hl
            replace i7 : v7 = .int .i64 (nearV y u) := i7
            replace i8 : v8 = .pointer (some ⟨G, i, none⟩) := i8
            subst i7 i8
            have hrow1 := (HROW2.out.alloc (.cells #[.string y.name, .int .i64 y.bits, .int .i64 y.low] 40)).below hb
            have f0 := hrow1.cell i (by rw [HOL.out]; exact hlt)
            have f1 := hrow1.frozen i
            have hbw : Below wr.heap.size wr W1 := hb0.trans (hb.mono (by simp))
            have HBN := Lib.hid ((HB.out.trans (hbw.mono HB.out.size)).setCell (p := ⟨G, i, none⟩) hWG (.int .i64 (nearV y u)))
            have HRN := Lib.hid (hrow1.set i (nearV y u))
            have HATN : Hid (∀ j (h1 : j < l.length) (h2 : j < vals.length), j < i + 1 → (out.set i (nearV y u)).getD j 0 = nearV l[j] vals[j]) := Lib.hid (fun j h1 h2 hj => by
              by_cases hji : j < i
              · rw [List.getD_eq_getElem?_getD, List.getElem?_set_ne (by omega), ← List.getD_eq_getElem?_getD]
                exact HAT.out j h1 h2 hji
              · obtain rfl : j = i := by omega
                rw [List.getD_eq_getElem?_getD, List.getElem?_set_self (by rw [HOL.out]; exact hlt)]
                have e2 : vals[j] = u := by rw [HU.out, List.getD_eq_getElem?_getD, List.getElem?_eq_getElem h2]; rfl
                rw [e2, ← HY.out]; rfl)
            clear hI hl hb hbw hrow1 hb0 B0 B1
            simp only [fillAll, Act.put, List.setIfInBounds_toArray, List.set_cons_succ, List.set_cons_zero]
            go_wp2
            go_roundg (m - (i + 1))
            case measure => rw [G2.out]; omega
            case rel => exact ⟨i + 1, out.set i (nearV y u), hlt, rfl, by go_num, by rw [List.length_set]; exact HOL.out, HATN.out, HRN.out, HBN.out⟩
        · have hie : i = m := by omega
          have hfl : fitL l vals = out := by
            unfold fitL
            refine List.ext_getElem (by rw [List.length_zipWith, HN.out, HM.out, HOL.out]; omega) (fun j h1 h2 => ?_)
            rw [List.length_zipWith] at h1
            rw [List.getElem_zipWith]
            have := HAT.out j (by omega) (by omega) (by rw [HOL.out] at h2; omega)
            rw [List.getD_eq_getElem?_getD, List.getElem?_eq_getElem h2] at this
            exact this.symm
          have HFL := Lib.hid hfl
          clear hie hfl
          go_wp2_with fail
          go_ret2
          exact ⟨fun h => absurd HFE.out h, fun _ => ⟨_, m, by rw [HM.out]; rfl, by simp only; rw [HFL.out]; exact HROW2.out.ints, fun x e => by injection e with e; subst e; exact hWG⟩, HB.out⟩
    · have HFE := Lib.hid (show fitE ⟨nm, l⟩ vals = 1 by unfold fitE; rw [if_neg (by rw [← HE.out]; simp), if_pos (by simp only; rw [HM.out, HN.out]; exact hmn)])
      have t0 : ((m : Int) != (n : Int)) = true := by rw [bne_iff_ne]; omega
      clear hmn
      go_wp2_with fail
      go_ret2
      exact ⟨fun _ => by rw [HFE.out]; rfl, fun h => absurd (HFE.out.symm.trans h) (by decide), HB1.out⟩
  · have t1 : (e1 != 0) = true := by rw [bne_iff_ne]; exact he
    have HFE := Lib.hid (show fitE ⟨nm, l⟩ vals = e1 by unfold fitE; rw [if_pos (by rw [← HE.out]; exact he), ← HE.out])
    have HNE := Lib.hid he
    clear he
    go_enter Tryd.func45, Tryd.ntmps45
    go_wp2_with fail
    refine HC.out.mono ?_
    rintro e w1 ⟨rfl, hb1⟩
    have HB1 := Lib.hid (HB0.out.trans (hb1.mono (by simp)))
    clear hb1
    go_wp2_with fail
    go_ret2
    exact ⟨fun _ => by rw [HFE.out]; rfl, fun h => absurd (HFE.out.symm.trans h) HNE.out, HB1.out⟩
/-- as FitS: the values lean on the blocks from B on alone -/
def FitSU (B : Nat) (k : KindV) (vals : List Int) (v : Value) (w : World) : Prop := (fitE k vals ≠ 0 → v = .slice none 0 0) ∧ (fitE k vals = 0 → ∃ a c, v = .slice a vals.length c ∧ IntsAt .i64 w a (fitL k.fields vals) ∧ ∀ x, a = some x → B ≤ x.block)
def FitTU (B : Nat) (k : KindV) (vals : List Int) (v : Value) (w : World) : Prop := ∃ u, v = .tuple #[u, .int .i64 (fitE k vals)] ∧ FitSU B k vals u w
theorem FitSU.below {B : Nat} {k : KindV} {vals : List Int} {v : Value} {w w' : World} (h : FitSU B k vals v w) (hb : Below w.heap.size w w') : FitSU B k vals v w' :=
  ⟨h.1, fun h0 => by obtain ⟨a, c, e, hi, hx⟩ := h.2 h0; exact ⟨a, c, e, hi.below hb, hx⟩⟩
theorem FitTU.below {B : Nat} {k : KindV} {vals : List Int} {v : Value} {w w' : World} (h : FitTU B k vals v w) (hb : Below w.heap.size w w') : FitTU B k vals v w' := by
  obtain ⟨u, e, hs⟩ := h; exact ⟨u, e, hs.below hb⟩
theorem FitPostU.tuple {B : Nat} {k : KindV} {vals : List Int} {W w' : World} {e : Ending} (h : FitPostU k vals W e w') (hB : B ≤ W.heap.size) : ∃ v, e = .returned v ∧ FitTU B k vals v w' := by
  obtain ⟨h1, h2, _⟩ := h
  by_cases h0 : fitE k vals = 0
  · obtain ⟨a, c, rfl, hi, hx⟩ := h2 h0
    exact ⟨_, rfl, _, by rw [h0], fun h => absurd h0 h, fun _ => ⟨a, c, rfl, hi, fun x e => Nat.le_trans hB (hx x e)⟩⟩
  · exact ⟨_, h1 h0, _, rfl, fun _ => rfl, fun h => absurd h h0⟩
end Go.Proofs.YtijeninfmjhbnaaDoor
end
/- ref Fitted: the values lie in new memory. By program from KindFitd. -/
section
namespace Go.Proofs.YtijeninfmjhbnaaDoor
open Go.ChangeShapes Go.WideShapes Go.ChangeAt Go.RowKit Go.Nm Go.Mem
set_option linter.unusedVariables false
set_option maxHeartbeats 8000000 in
theorem ref_FittedU (k : KindV) (a : Option Addr) (n cap : Nat) (vals : List Int) (av : Option Addr) (m cv : Nat) (hn : k.fields.length = n) (hm : vals.length = m) (hm9 : m ≤ 9223372036854775807) (hnm : k.name.size ≤ 9223372036854775807) (hnc : n ≤ cap) (hcm : cap ≤ 9223372036854775807) (W : World) (hz : SlAt 3 FieldAt W a k.fields) (hv : IntsAt .i64 W av vals) :
    Calls Tryd.prog 55 #[.agg #[.string k.name, .slice a n cap], .slice av m cv] W (FitPostU k vals W) := by
  have hb0 := (Below.refl W.heap.size W).alloc (Nat.le_refl _) (.cells #[.string k.name, .slice a n cap] 43)
  have hc := ref_KindError k a n cap hn hnm (by omega) (W.alloc (.cells #[.string k.name, .slice a n cap] 43)) (hz.below FieldAt.abides hb0)
  have x0 := heap_alloc_new W (.cells #[.string k.name, .slice a n cap] 43)
  have HB0 := Lib.hid hb0
  have HX0 := Lib.hid x0
  have HN := Lib.hid hn
  have HM := Lib.hid hm
  have HZ := Lib.hid hz
  have HV := Lib.hid hv
  obtain ⟨nm, l⟩ := k
  simp only at hc HX0 HB0 hnm HN HZ ⊢
  obtain ⟨e1, he1⟩ : ∃ e1, e1 = kindE ⟨nm, l⟩ := ⟨_, rfl⟩
  rw [← he1] at hc
  have HE := Lib.hid he1
  have HC := Lib.hid hc
  clear hb0 hc x0 hn hm hz hv he1
  by_cases he : e1 = 0
  · subst he
    obtain ⟨hn8, hok⟩ := kind_ok HE.out.symm
    simp only at hn8 hok
    rw [HN.out] at hn8
    have HOK := Lib.hid hok
    clear hok
    go_enter Tryd.func55, Tryd.ntmps55
    go_wp2_with fail
    refine HC.out.mono ?_
    rintro e w1 ⟨rfl, hb1⟩
    have hx1 := heap_below HX0.out hb1
    have c1 : w1.cell? ⟨W.heap.size, 1, none⟩ = some (.slice a n cap) := by rw [cell_of_row _ _ 1 _ _ _ hx1]; rfl
    have hbw := HB0.out.trans (hb1.mono (by simp))
    have HB1 := Lib.hid hbw
    have HX1 := Lib.hid hx1
    have hs1 := hbw.size
    clear hb1 hx1 hbw HC HX0 HB0
    by_cases hmn : m = n
    · subst hmn
      have HFE := Lib.hid (show fitE ⟨nm, l⟩ vals = 0 by unfold fitE; rw [if_neg (by rw [← HE.out]; simp), if_neg (by simp only; rw [HM.out, HN.out]; simp)])
      have t0 : ((m : Int) != (m : Int)) = false := by simp
      go_wp2_with fail
      clear c1
      go_loopg [7, 8, 22] m (fun gk v7 v8 vi wx => ∃ (i : Nat) (out : List Int), i ≤ m ∧ gk = m - i ∧ vi = .int .i64 i ∧ out.length = i ∧ (∀ j (h1 : j < l.length) (h2 : j < vals.length), j < i → out.getD j 0 = nearV l[j] vals[j]) ∧ wx.ownsRow (W.heap.size + 1) 3 1 v7 i (vints .i64 out) ∧ wx.heap[W.heap.size]? = some (.cells #[.string nm, .slice a m cap] 43 (0, 0)) ∧ Below W.heap.size W wx)
      case atStart => exact ⟨0, [], Nat.zero_le _, rfl, rfl, rfl, fun j _ _ h => absurd h (by omega), World.ownsRow_nil _ _ _ _, HX1.out, HB1.out⟩
      case round =>
        obtain ⟨i, out, hi, g2, rfl, hol, hat, hown, hx0, hb⟩ := hrel
        have G2 := Lib.hid g2
        have HOL := Lib.hid hol
        have HAT := Lib.hid hat
        have HO := Lib.hid hown
        have HX := Lib.hid hx0
        have HB := Lib.hid hb
        have hbs := hb.size
        obtain ⟨ao, ca, rfl⟩ := own_slice hown
        clear g2 hol hat hown hx0 hb HX1 HB1
        by_cases hlt : i < m
        · obtain ⟨x, rfl, hx, hix⟩ := (HZ.out.below FieldAt.abides HB.out) (by rw [HN.out]; omega)
          obtain ⟨z, rfl, hzl, hiz⟩ := (HV.out.below HB.out) (by rw [HM.out]; omega)
          obtain ⟨k0, k1, k2, k3⟩ := hix i (by rw [HN.out]; exact hlt)
          have kv := hiz i (by rw [HM.out]; exact hlt)
          obtain ⟨y, hy⟩ : ∃ y, y = l[i]'(by rw [HN.out]; exact hlt) := ⟨_, rfl⟩
          rw [← hy] at k0 k1 k2 k3
          obtain ⟨u, hu⟩ : ∃ u, u = vals.getD i 0 := ⟨_, rfl⟩
          have kv : wr.cell? (z.add i) = some (.int .i64 u) := by rw [hu]; exact kv
          have hoky : okF y = true := by rw [hy]; exact HOK.out i (by rw [HN.out]; exact hlt)
          have HNR := Lib.hid (nearest_at y u hoky k3)
          have HY := Lib.hid hy
          have HU := Lib.hid hu
          have c1 : wr.cell? ⟨W.heap.size, 1, none⟩ = some (.slice (some x) m cap) := by rw [cell_of_row _ _ 1 _ _ _ HX.out]; rfl
          clear hix hiz hy hu hoky k3
          go_wp2_with fail
          refine wp_region_facts_t rfl 12 (by kernel_rfl) (F_fitd (.slice ao i ca) W.heap.size i m m cap cv u x z y) (F_fitd_mono (.slice ao i ca) W.heap.size i m m cap cv u x z y) ?_ ?_
          · refine ⟨?_, ?_, ?_, ?_, ?_, ?_, ?_, ?_, ?_, ?_, ?_, ?_, trivial⟩
            · intro vs w' F hb hd hF hl hT
              have e := ((hF 7).trans (look_at _ 7 13 _ _ (by kernel_rfl) (by kernel_rfl) hl)).trans ((hT 13 (by decide)).trans (show _ = Value.slice ao i ca from by kernel_rfl))
              exact one_move _ rfl (by first | exact Or.inl rfl | exact Or.inr rfl) ⟨_, rfl, Below.refl _ _, e⟩
            · intro vs w' F hb hd hF hl hT
              have e := (hF 2).trans (look_out _ 2 _ _ (by kernel_rfl))
              exact one_field _ _ _ rfl rfl _ _ e _ (fun w => by kernel_rfl) ⟨_, rfl, Below.refl _ _, rfl⟩
            · intro vs w' F hb hd hF hl hT
              have e := ((hF 26).trans (look_at _ 26 1 _ _ (by kernel_rfl) (by kernel_rfl) hl)).trans (dep_of (Fact := F_fitd (.slice ao i ca) W.heap.size i m m cap cv u x z y) hd 1 (by kernel_rfl))
              exact one_load _ _ rfl rfl _ _ e (cell_abides c1 hb) (by kernel_rfl) ⟨_, rfl, Below.refl _ _, rfl⟩
            · intro vs w' F hb hd hF hl hT
              have e := (hF 8).trans (look_out _ 8 _ _ (by kernel_rfl))
              exact one_move _ rfl (by first | exact Or.inl rfl | exact Or.inr rfl) ⟨_, rfl, Below.refl _ _, e⟩
            · intro vs w' F hb hd hF hl hT
              have ex := (((hF 27).trans (look_at _ 27 2 _ _ (by kernel_rfl) (by kernel_rfl) hl)).trans (dep_of (Fact := F_fitd (.slice ao i ca) W.heap.size i m m cap cv u x z y) hd 2 (by kernel_rfl)))
              have ey := (((hF 28).trans (look_at _ 28 3 _ _ (by kernel_rfl) (by kernel_rfl) hl)).trans (dep_of (Fact := F_fitd (.slice ao i ca) W.heap.size i m m cap cv u x z y) hd 3 (by kernel_rfl)))
              exact one_index 41 _ _ rfl rfl (.slice (some x) m cap) (.int .i64 i) (.pointer (some (x.add (i * 3)))) ex ey (fun w => by clear hb hd hF hl ex ey; go_simp) ⟨_, rfl, Below.refl _ _, rfl⟩
            · intro vs w' F hb hd hF hl hT
              have e := (((hF 29).trans (look_at _ 29 4 _ _ (by kernel_rfl) (by kernel_rfl) hl)).trans (dep_of (Fact := F_fitd (.slice ao i ca) W.heap.size i m m cap cv u x z y) hd 4 (by kernel_rfl)))
              exact one_load3 40 _ rfl rfl _ _ _ _ e (cell_abides k0 hb) (cell_abides k1 hb) (cell_abides k2 hb) _ Tryd.underlying40 rfl (by kernel_rfl) ⟨_, rfl, Below.refl _ _, rfl⟩
            · intro vs w' F hb hd hF hl hT
              have e := (hF 1).trans (look_out _ 1 _ _ (by kernel_rfl))
              exact one_move _ rfl (by first | exact Or.inl rfl | exact Or.inr rfl) ⟨_, rfl, Below.refl _ _, e⟩
            · intro vs w' F hb hd hF hl hT
              have e := (hF 8).trans (look_out _ 8 _ _ (by kernel_rfl))
              exact one_move _ rfl (by first | exact Or.inl rfl | exact Or.inr rfl) ⟨_, rfl, Below.refl _ _, e⟩
            · intro vs w' F hb hd hF hl hT
              have ex := (((hF 31).trans (look_at _ 31 6 _ _ (by kernel_rfl) (by kernel_rfl) hl)).trans (dep_of (Fact := F_fitd (.slice ao i ca) W.heap.size i m m cap cv u x z y) hd 6 (by kernel_rfl)))
              have ey := (((hF 32).trans (look_at _ 32 7 _ _ (by kernel_rfl) (by kernel_rfl) hl)).trans (dep_of (Fact := F_fitd (.slice ao i ca) W.heap.size i m m cap cv u x z y) hd 7 (by kernel_rfl)))
              exact one_index 23 _ _ rfl rfl (.slice (some z) m cv) (.int .i64 i) (.pointer (some (z.add i))) ex ey (fun w => by clear hb hd hF hl ex ey; go_simp) ⟨_, rfl, Below.refl _ _, rfl⟩
            · intro vs w' F hb hd hF hl hT
              have e := (((hF 33).trans (look_at _ 33 8 _ _ (by kernel_rfl) (by kernel_rfl) hl)).trans (dep_of (Fact := F_fitd (.slice ao i ca) W.heap.size i m m cap cv u x z y) hd 8 (by kernel_rfl)))
              exact one_load _ _ rfl rfl _ _ e (cell_abides kv hb) (by kernel_rfl) ⟨_, rfl, Below.refl _ _, rfl⟩
            · intro vs w' F hb hd hF hl hT
              have e1 := (((hF 30).trans (look_at _ 30 5 _ _ (by kernel_rfl) (by kernel_rfl) hl)).trans (dep_of (Fact := F_fitd (.slice ao i ca) W.heap.size i m m cap cv u x z y) hd 5 (by kernel_rfl)))
              have e2 := (((hF 34).trans (look_at _ 34 9 _ _ (by kernel_rfl) (by kernel_rfl) hl)).trans (dep_of (Fact := F_fitd (.slice ao i ca) W.heap.size i m m cap cv u x z y) hd 9 (by kernel_rfl)))
              refine one_call _ _ rfl rfl (enters_of Tryd.func35 (by kernel_rfl) rfl) #[.agg #[.string y.name, .int .i64 y.bits, .int .i64 y.low], .int .i64 u] (eval2 e1 e2) ?_
              refine (HNR.out w').mono ?_
              rintro e3 w2 ⟨rfl, hb2⟩
              exact ⟨_, rfl, _, rfl, hb2, rfl⟩
            · intro vs w' F hb hd hF hl hT
              have e := (((hF 35).trans (look_at _ 35 10 _ _ (by kernel_rfl) (by kernel_rfl) hl)).trans (dep_of (Fact := F_fitd (.slice ao i ca) W.heap.size i m m cap cv u x z y) hd 10 (by kernel_rfl)))
              refine one_slice1 23 3 _ rfl rfl _ e Tryd.underlying23 (by kernel_rfl) ?_
              exact ⟨_, rfl, (Below.refl _ _).alloc (Nat.le_refl _) _, _, rfl, ints_one w' _ _⟩
          · intro vs W1 hl hb hI
            have i0 : vs.getD 0 undef = .slice ao i ca := hI 0 (by omega)
            obtain ⟨X, i11, hxi⟩ := hI 11 (by omega)
            have hown1 := own_below HO.out hb
            have hx1 := heap_below HX.out hb
            have hBW := HB.out.trans (hb.mono hbs)
            have hsz := hBW.size
            have hsz1 : W.heap.size + 1 ≤ W1.heap.size := lt_of_heap hx1
            obtain ⟨v0, v1, v2, v3, v4, v5, v6, v7, v8, v9, v10, v11, v12, v13, rfl⟩ := list14 hl
            replace i0 : v0 = .slice ao i ca := i0
            replace i11 : v11 = .slice (some ⟨X, 0, none⟩) 1 1 := i11
            subst i0 i11
            have HO1 := Lib.hid hown1
            have HXI := Lib.hid hxi
            have HX2 := Lib.hid hx1
            have HBW := Lib.hid hBW
            clear hI hl hb hown1 hx1 hBW hxi HNR HO HX k0 k1 k2 kv
            simp only [fillAll, Act.put, List.setIfInBounds_toArray, List.set_cons_succ, List.set_cons_zero]
            refine wpList_append_ints rfl _ _ 23 rfl (W.heap.size + 1) 3 .i64 8 Tryd.underlying23 (by kernel_rfl) (.slice ao i ca) i out rfl HO1.out (some ⟨X, 0, none⟩) 1 1 [nearV y u] rfl rfl HXI.out (by unfold maxLen; omega) (by omega) hsz1 ?_
            intro v' w' hown' hg hor
            have HX3 := Lib.hid (show w'.heap[W.heap.size]? = some (.cells #[.string nm, .slice (some x) m cap] 43 (0, 0)) from by
              rw [hg.block _ hsz1 (fun e => by have := (own_lt HO1.out _ e.symm).1; omega)]; exact HX2.out)
            have HB3 := Lib.hid (HBW.out.grown hg hsz (fun g hg2 => Nat.le_of_succ_le (own_lt HO1.out g hg2).1))
            have HO3 := Lib.hid hown'
            have HATN : Hid (∀ j (h1 : j < l.length) (h2 : j < vals.length), j < i + 1 → (out ++ [nearV y u]).getD j 0 = nearV l[j] vals[j]) := Lib.hid (fun j h1 h2 hj => by
              by_cases hji : j < i
              · rw [List.getD_eq_getElem?_getD, List.getElem?_append_left (by rw [HOL.out]; exact hji), ← List.getD_eq_getElem?_getD]
                exact HAT.out j h1 h2 hji
              · obtain rfl : j = i := by omega
                rw [List.getD_eq_getElem?_getD, List.getElem?_append_right (by rw [HOL.out]; exact Nat.le_refl _), HOL.out, Nat.sub_self]
                have e2 : vals[j] = u := by rw [HU.out, List.getD_eq_getElem?_getD, List.getElem?_eq_getElem h2]; rfl
                rw [e2, ← HY.out]; rfl)
            clear hown' hg hor HO1 HXI HX2 HBW
            go_wp2_with fail
            go_roundg (m - (i + 1))
            case measure => rw [G2.out]; omega
            case rel => exact ⟨i + 1, out ++ [nearV y u], hlt, rfl, by go_num, by rw [List.length_append, HOL.out]; rfl, HATN.out, HO3.out, HX3.out, HB3.out⟩
        · have hie : i = m := by omega
          have hfl : fitL l vals = out := by
            unfold fitL
            refine List.ext_getElem (by rw [List.length_zipWith, HN.out, HM.out, HOL.out]; omega) (fun j h1 h2 => ?_)
            rw [List.length_zipWith] at h1
            rw [List.getElem_zipWith]
            have := HAT.out j (by omega) (by omega) (by rw [HOL.out] at h2; omega)
            rw [List.getD_eq_getElem?_getD, List.getElem?_eq_getElem h2] at this
            exact this.symm
          have HFL := Lib.hid hfl
          have HIN := Lib.hid (IntsAt.of_own HO.out HOL.out.symm)
          clear hfl
          subst hie
          go_wp2_with fail
          go_ret2
          exact ⟨fun h => absurd HFE.out h, fun _ => ⟨_, ca, by rw [HM.out]; rfl, by simp only; rw [HFL.out]; exact HIN.out, fun x e => by subst e; exact Nat.le_of_succ_le (own_lt HO.out x.block rfl).1⟩, HB.out⟩
    · have HFE := Lib.hid (show fitE ⟨nm, l⟩ vals = 1 by unfold fitE; rw [if_neg (by rw [← HE.out]; simp), if_pos (by simp only; rw [HM.out, HN.out]; exact hmn)])
      have t0 : ((m : Int) != (n : Int)) = true := by rw [bne_iff_ne]; omega
      clear hmn
      go_wp2_with fail
      go_ret2
      exact ⟨fun _ => by rw [HFE.out]; rfl, fun h => absurd (HFE.out.symm.trans h) (by decide), HB1.out⟩
  · have t1 : (e1 != 0) = true := by rw [bne_iff_ne]; exact he
    have HFE := Lib.hid (show fitE ⟨nm, l⟩ vals = e1 by unfold fitE; rw [if_pos (by rw [← HE.out]; exact he), ← HE.out])
    have HNE := Lib.hid he
    clear he
    go_enter Tryd.func55, Tryd.ntmps55
    go_wp2_with fail
    refine HC.out.mono ?_
    rintro e w1 ⟨rfl, hb1⟩
    have HB1 := Lib.hid (HB0.out.trans (hb1.mono (by simp)))
    clear hb1
    go_wp2_with fail
    go_ret2
    exact ⟨fun _ => by rw [HFE.out]; rfl, fun h => absurd (HFE.out.symm.trans h) HNE.out, HB1.out⟩
end Go.Proofs.YtijeninfmjhbnaaDoor
end
