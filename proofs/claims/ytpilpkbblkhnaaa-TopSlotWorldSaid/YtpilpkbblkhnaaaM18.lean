/- Lemmas for the law TopSlotWorld: WSame, FitTup, KindFitU, KindFitd, KindFitdU, FitAll, OpenP. No conditions. -/
import Derived.Test.YtpilpkbblkhnaaaM14
import Derived.Test.YtpilpkbblkhnaaaM15
import Derived.Test.YtpilpkbblkhnaaaM17
import Derived.Test.YtpilpkbblkhnaaaM06
import Derived.Test.YtpilpkbblkhnaaaM10
import Derived.Shelf.Abstract
import Derived.Test.YtpilpkbblkhnaaaM13
import Derived.Test.YtpilpkbblkhnaaaM08
import Derived.Test.YtpilpkbblkhnaaaM11
/- Worlds held against each other: ref SameWorld, world.Same. -/
section
namespace Go.Proofs.Ytpilpkbblkhnaaa
open Go.ChangeShapes Go.WideShapes Go.ChangeAt Go.RowKit Go.Nm Go.Mem
set_option linter.unusedVariables false
def sameB (y z : WorldV) : Bool := eqL keqB y.kinds z.kinds && (decide (y.gens = z.gens) && decide (y.items = z.items))
end Go.Proofs.Ytpilpkbblkhnaaa
end
/- What Fit and Fitted give back, as tuples. -/
section
namespace Go.Proofs.Ytpilpkbblkhnaaa
open Go.ChangeShapes Go.WideShapes Go.ChangeAt Go.RowKit Go.Nm Go.Mem
set_option linter.unusedVariables false
def FitS (k : KindV) (vals : List Int) (v : Value) (w : World) : Prop := (fitE k vals ≠ 0 → v = .slice none 0 0) ∧ (fitE k vals = 0 → ∃ a c, v = .slice a vals.length c ∧ IntsAt .i64 w a (fitL k.fields vals))
def FitT (k : KindV) (vals : List Int) (v : Value) (w : World) : Prop := ∃ u, v = .tuple #[u, .int .i64 (fitE k vals)] ∧ FitS k vals u w
theorem FitS.below {k : KindV} {vals : List Int} {v : Value} {w w' : World} (h : FitS k vals v w) (hb : Below w.heap.size w w') : FitS k vals v w' :=
  ⟨h.1, fun h0 => by obtain ⟨a, c, e, hi⟩ := h.2 h0; exact ⟨a, c, e, hi.below hb⟩⟩
theorem FitT.below {k : KindV} {vals : List Int} {v : Value} {w w' : World} (h : FitT k vals v w) (hb : Below w.heap.size w w') : FitT k vals v w' := by
  obtain ⟨u, e, hs⟩ := h; exact ⟨u, e, hs.below hb⟩
theorem FitPost.tuple {k : KindV} {vals : List Int} {W w' : World} {e : Ending} (h : FitPost k vals W e w') : ∃ v, e = .returned v ∧ FitT k vals v w' := by
  obtain ⟨h1, h2, _⟩ := h
  by_cases h0 : fitE k vals = 0
  · obtain ⟨a, c, rfl, hi⟩ := h2 h0
    exact ⟨_, rfl, _, by rw [h0], fun h => absurd h0 h, fun _ => ⟨a, c, rfl, hi⟩⟩
  · exact ⟨_, h1 h0, _, rfl, fun _ => rfl, fun h => absurd h h0⟩
theorem fitL_len {k : KindV} {vals : List Int} (h : fitE k vals = 0) : (fitL k.fields vals).length = vals.length := by
  unfold fitE at h
  unfold fitL
  rw [List.length_zipWith]
  split at h
  · contradiction
  · split at h
    · cases h
    · omega
end Go.Proofs.Ytpilpkbblkhnaaa
end
/- kind.Fit: the values lie in new memory. -/
section
namespace Go.Proofs.Ytpilpkbblkhnaaa
open Go.ChangeShapes Go.WideShapes Go.ChangeAt Go.RowKit Go.Nm Go.Mem
set_option linter.unusedVariables false
def FitPostU (k : KindV) (vals : List Int) (W : World) (e : Ending) (w' : World) : Prop := (fitE k vals ≠ 0 → e = .returned (.tuple #[.slice none 0 0, .int .i64 (fitE k vals)])) ∧
  (fitE k vals = 0 → ∃ a c, e = .returned (.tuple #[.slice a vals.length c, .int .i64 0]) ∧ IntsAt .i64 w' a (fitL k.fields vals) ∧ ∀ x, a = some x → W.heap.size ≤ x.block) ∧ Below W.heap.size W w'
set_option maxHeartbeats 8000000 in
theorem kind_FitU (k : KindV) (a : Option Addr) (n cap : Nat) (vals : List Int) (av : Option Addr) (m cv : Nat) (hn : k.fields.length = n) (hm : vals.length = m) (hm9 : m ≤ 9223372036854775807) (hnm : k.name.size ≤ 9223372036854775807) (hnc : n ≤ cap) (hcm : cap ≤ 9223372036854775807) (W : World) (hz : SlAt 3 FieldAt W a k.fields) (hv : IntsAt .i64 W av vals) :
    Calls Try.prog 55 #[.agg #[.string k.name, .slice a n cap], .slice av m cv] W (FitPostU k vals W) := by
  have hb0 := (Below.refl W.heap.size W).alloc (Nat.le_refl _) (.cells #[.string k.name, .slice a n cap] 58)
  have hc := kind_One k a n cap hn hnm hnc hcm (W.alloc (.cells #[.string k.name, .slice a n cap] 58)) (hz.below FieldAt.abides hb0)
  have x0 := heap_alloc_new W (.cells #[.string k.name, .slice a n cap] 58)
  have HB0 := Lib.hid hb0
  have HX0 := Lib.hid x0
  have HN := Lib.hid hn
  have HM := Lib.hid hm
  have HZ := Lib.hid hz
  have HV := Lib.hid hv
  obtain ⟨nm, l⟩ := k
  simp only at hc HX0 HB0 hnm HN HZ ⊢
  obtain ⟨e1, he1⟩ : ∃ e1, e1 = kindE ⟨nm, l⟩ := ⟨_, rfl⟩
  rw [← he1] at hc
  have HE := Lib.hid he1
  have HC := Lib.hid hc
  clear hb0 hc x0 hn hm hz hv he1
  by_cases he : e1 = 0
  · subst he
    obtain ⟨hn8, hok⟩ := kind_ok HE.out.symm
    simp only at hn8 hok
    rw [HN.out] at hn8
    have HOK := Lib.hid hok
    clear hok
    go_enter Try.func55, Try.ntmps55
    go_wp2_with fail
    refine HC.out.mono ?_
    rintro e w1 ⟨rfl, hb1⟩
    have hx1 := heap_below HX0.out hb1
    have c1 : w1.cell? ⟨W.heap.size, 1, none⟩ = some (.slice a n cap) := by rw [cell_of_row _ _ 1 _ _ _ hx1]; rfl
    have hbw := HB0.out.trans (hb1.mono (by simp))
    have HB1 := Lib.hid hbw
    have HX1 := Lib.hid hx1
    have hs1 := hbw.size
    clear hb1 hx1 hbw HC HX0 HB0
    by_cases hmn : m = n
    · subst hmn
      have HFE := Lib.hid (show fitE ⟨nm, l⟩ vals = 0 by unfold fitE; rw [if_neg (by rw [← HE.out]; simp), if_neg (by simp only; rw [HM.out, HN.out]; simp)])
      have t0 : ((m : Int) != (m : Int)) = false := by simp
      go_wp2_with (at_make; go_must (refine wpList_make_rowB rfl _ _ 22 rfl 3 .i64 8 Try.underlying22 (by kernel_rfl) _ _ _ _ m rfl rfl rfl rfl ?b1 ?b2 ?_))
      case b1 => omega
      case b2 => unfold maxLen; omega
      intro w2 hrow hb2 hs2
      have c2 : w2.cell? ⟨W.heap.size, 1, none⟩ = some (.slice a m cap) := by rw [cell_of_row _ _ 1 _ _ _ (heap_below HX1.out hb2)]; rfl
      obtain ⟨G, hG⟩ : ∃ G, G = w1.heap.size := ⟨_, rfl⟩
      rw [← hG] at hrow hs2 ⊢
      have hWG : W.heap.size ≤ G := by rw [hG]; exact HB1.out.size
      have HROW := Lib.hid hrow
      have HB2 := Lib.hid (HB1.out.trans (hb2.mono HB1.out.size))
      clear hrow hb2 hG c1 hs2
      go_wp2_with fail
      clear c2
      go_loopg [8, 9, 27] m (fun gk v8 v9 vi wx => ∃ (i : Nat) (out : List Int), i ≤ m ∧ gk = m - i ∧ vi = .int .i64 i ∧ out.length = m ∧ (∀ j (h1 : j < l.length) (h2 : j < vals.length), j < i → out.getD j 0 = nearV l[j] vals[j]) ∧ RowB wx G 3 .i64 out ∧ Below W.heap.size W wx)
      case atStart => exact ⟨0, List.replicate m 0, Nat.zero_le _, rfl, rfl, by simp, fun j _ _ h => absurd h (by omega), HROW.out, HB2.out⟩
      case round =>
        obtain ⟨i, out, hi, g2, rfl, hol, hat, hrow, hb⟩ := hrel
        have G2 := Lib.hid g2
        have HOL := Lib.hid hol
        have HAT := Lib.hid hat
        have HROW2 := Lib.hid hrow
        have HB := Lib.hid hb
        have hbs := hb.size
        have hgl := hrow.lt
        clear g2 hol hat hrow hb HROW HB2
        by_cases hlt : i < m
        · obtain ⟨x, rfl, hx, hix⟩ := (HZ.out.below FieldAt.abides HB.out) (by rw [HN.out]; omega)
          obtain ⟨z, rfl, hzl, hiz⟩ := (HV.out.below HB.out) (by rw [HM.out]; omega)
          obtain ⟨k0, k1, k2, k3⟩ := hix i (by rw [HN.out]; exact hlt)
          have kv := hiz i (by rw [HM.out]; exact hlt)
          obtain ⟨y, hy⟩ : ∃ y, y = l[i]'(by rw [HN.out]; exact hlt) := ⟨_, rfl⟩
          rw [← hy] at k0 k1 k2 k3
          obtain ⟨u, hu⟩ : ∃ u, u = vals.getD i 0 := ⟨_, rfl⟩
          rw [← hu] at kv
          have hoky : okF y = true := by rw [hy]; exact HOK.out i (by rw [HN.out]; exact hlt)
          have HNR := Lib.hid (near_at y u hoky k3)
          have HY := Lib.hid hy
          have HU := Lib.hid hu
          clear hix hiz hy hu hoky k3
          go_wp2_with fail
          have hb0 := (Below.refl wr.heap.size wr).alloc (Nat.le_refl _) (.cells #[.string y.name, .int .i64 y.bits, .int .i64 y.low] 55)
          have B0 := heap_alloc_new wr (.cells #[.string y.name, .int .i64 y.bits, .int .i64 y.low] 55)
          have B1 := cell_abides kv hb0
          refine wp_region_facts rfl 9 (by kernel_rfl) (F_fit wr.heap.size G i m cv u z y) (F_fit_mono wr.heap.size G i m cv u z y) ?_ ?_
          · refine ⟨?_, ?_, ?_, ?_, ?_, ?_, ?_, ?_, ?_, trivial⟩
            · intro vs w' F hb hd hF hl
              have e := (hF 7).trans (look_out _ 7 _ _ (by kernel_rfl))
              exact one_move _ rfl (by first | exact Or.inl rfl | exact Or.inr rfl) ⟨_, rfl, Below.refl _ _, e⟩
            · intro vs w' F hb hd hF hl
              have e := (hF 8).trans (look_out _ 8 _ _ (by kernel_rfl))
              exact one_move _ rfl (by first | exact Or.inl rfl | exact Or.inr rfl) ⟨_, rfl, Below.refl _ _, e⟩
            · intro vs w' F hb hd hF hl
              have e := ((hF 9).trans (look_out _ 9 _ _ (by kernel_rfl)))
              exact one_load_row 55 _ rfl rfl wr.heap.size #[.string y.name, .int .i64 y.bits, .int .i64 y.low] 55 (0, 0) e (heap_below B0 hb) _ Try.underlying55 rfl (by kernel_rfl) ⟨_, rfl, Below.refl _ _, rfl⟩
            · intro vs w' F hb hd hF hl
              have e := (hF 1).trans (look_out _ 1 _ _ (by kernel_rfl))
              exact one_move _ rfl (by first | exact Or.inl rfl | exact Or.inr rfl) ⟨_, rfl, Below.refl _ _, e⟩
            · intro vs w' F hb hd hF hl
              have e := (hF 8).trans (look_out _ 8 _ _ (by kernel_rfl))
              exact one_move _ rfl (by first | exact Or.inl rfl | exact Or.inr rfl) ⟨_, rfl, Below.refl _ _, e⟩
            · intro vs w' F hb hd hF hl
              have ex := (((hF 35).trans (look_at _ 35 3 _ _ (by kernel_rfl) (by kernel_rfl) hl)).trans (dep_of (Fact := F_fit wr.heap.size G i m cv u z y) hd 3 (by kernel_rfl)))
              have ey := (((hF 36).trans (look_at _ 36 4 _ _ (by kernel_rfl) (by kernel_rfl) hl)).trans (dep_of (Fact := F_fit wr.heap.size G i m cv u z y) hd 4 (by kernel_rfl)))
              exact one_index 22 _ _ rfl rfl (.slice (some z) m cv) (.int .i64 i) (.pointer (some (z.add i))) ex ey (fun w => by clear hb hd hF hl ex ey; go_simp) ⟨_, rfl, Below.refl _ _, rfl⟩
            · intro vs w' F hb hd hF hl
              have e := (((hF 37).trans (look_at _ 37 5 _ _ (by kernel_rfl) (by kernel_rfl) hl)).trans (dep_of (Fact := F_fit wr.heap.size G i m cv u z y) hd 5 (by kernel_rfl)))
              exact one_load _ _ rfl rfl _ _ e (cell_abides B1 hb) (by kernel_rfl) ⟨_, rfl, Below.refl _ _, rfl⟩
            · intro vs w' F hb hd hF hl
              have e1 := (((hF 34).trans (look_at _ 34 2 _ _ (by kernel_rfl) (by kernel_rfl) hl)).trans (dep_of (Fact := F_fit wr.heap.size G i m cv u z y) hd 2 (by kernel_rfl)))
              have e2 := (((hF 38).trans (look_at _ 38 6 _ _ (by kernel_rfl) (by kernel_rfl) hl)).trans (dep_of (Fact := F_fit wr.heap.size G i m cv u z y) hd 6 (by kernel_rfl)))
              refine one_call _ _ rfl rfl (enters_of Try.func71 (by kernel_rfl) rfl) #[.agg #[.string y.name, .int .i64 y.bits, .int .i64 y.low], .int .i64 u] (eval2 e1 e2) ?_
              refine (HNR.out w').mono ?_
              rintro e3 w2 ⟨rfl, hb2⟩
              exact ⟨_, rfl, _, rfl, hb2, rfl⟩
            · intro vs w' F hb hd hF hl
              have ex := (((hF 32).trans (look_at _ 32 0 _ _ (by kernel_rfl) (by kernel_rfl) hl)).trans (dep_of (Fact := F_fit wr.heap.size G i m cv u z y) hd 0 (by kernel_rfl)))
              have ey := (((hF 33).trans (look_at _ 33 1 _ _ (by kernel_rfl) (by kernel_rfl) hl)).trans (dep_of (Fact := F_fit wr.heap.size G i m cv u z y) hd 1 (by kernel_rfl)))
              exact one_index 22 _ _ rfl rfl (.slice (some ⟨G, 0, none⟩) m m) (.int .i64 i) (.pointer (some ⟨G, i, none⟩)) ex ey (fun w => by clear hb hd hF hl ex ey; go_simp) ⟨_, rfl, Below.refl _ _, rfl⟩
          · intro vs W1 hl hb hI
            have i7 : vs.getD 7 undef = .int .i64 (nearV y u) := hI 7 (by omega)
            have i8 : vs.getD 8 undef = .pointer (some ⟨G, i, none⟩) := hI 8 (by omega)
            obtain ⟨v0, v1, v2, v3, v4, v5, v6, v7, v8, v9, rfl⟩ := list10 hl
            replace i7 : v7 = .int .i64 (nearV y u) := i7
            replace i8 : v8 = .pointer (some ⟨G, i, none⟩) := i8
            subst i7 i8
            have hrow1 := (HROW2.out.alloc (.cells #[.string y.name, .int .i64 y.bits, .int .i64 y.low] 55)).below hb
            have f0 := hrow1.cell i (by rw [HOL.out]; exact hlt)
            have f1 := hrow1.frozen i
            have hbw : Below wr.heap.size wr W1 := hb0.trans (hb.mono (by simp))
            have HBN := Lib.hid ((HB.out.trans (hbw.mono HB.out.size)).setCell (p := ⟨G, i, none⟩) hWG (.int .i64 (nearV y u)))
            have HRN := Lib.hid (hrow1.set i (nearV y u))
            have HATN : Hid (∀ j (h1 : j < l.length) (h2 : j < vals.length), j < i + 1 → (out.set i (nearV y u)).getD j 0 = nearV l[j] vals[j]) := Lib.hid (fun j h1 h2 hj => by
              by_cases hji : j < i
              · rw [List.getD_eq_getElem?_getD, List.getElem?_set_ne (by omega), ← List.getD_eq_getElem?_getD]
                exact HAT.out j h1 h2 hji
              · obtain rfl : j = i := by omega
                rw [List.getD_eq_getElem?_getD, List.getElem?_set_self (by rw [HOL.out]; exact hlt)]
                have e2 : vals[j] = u := by rw [HU.out, List.getD_eq_getElem?_getD, List.getElem?_eq_getElem h2]; rfl
                rw [e2, ← HY.out]; rfl)
            clear hI hl hb hbw hrow1 hb0 B0 B1
            simp only [fillAll, Act.put, List.setIfInBounds_toArray, List.set_cons_succ, List.set_cons_zero]
            go_wp2
            go_roundg (m - (i + 1))
            case measure => rw [G2.out]; omega
            case rel => exact ⟨i + 1, out.set i (nearV y u), hlt, rfl, by go_num, by rw [List.length_set]; exact HOL.out, HATN.out, HRN.out, HBN.out⟩
        · have hie : i = m := by omega
          have hfl : fitL l vals = out := by
            unfold fitL
            refine List.ext_getElem (by rw [List.length_zipWith, HN.out, HM.out, HOL.out]; omega) (fun j h1 h2 => ?_)
            rw [List.length_zipWith] at h1
            rw [List.getElem_zipWith]
            have := HAT.out j (by omega) (by omega) (by rw [HOL.out] at h2; omega)
            rw [List.getD_eq_getElem?_getD, List.getElem?_eq_getElem h2] at this
            exact this.symm
          have HFL := Lib.hid hfl
          clear hie hfl
          go_wp2_with fail
          go_ret2
          exact ⟨fun h => absurd HFE.out h, fun _ => ⟨_, m, by rw [HM.out]; rfl, by simp only; rw [HFL.out]; exact HROW2.out.ints, fun x e => by injection e with e; subst e; exact hWG⟩, HB.out⟩
    · have HFE := Lib.hid (show fitE ⟨nm, l⟩ vals = 1 by unfold fitE; rw [if_neg (by rw [← HE.out]; simp), if_pos (by simp only; rw [HM.out, HN.out]; exact hmn)])
      have t0 : ((m : Int) != (n : Int)) = true := by rw [bne_iff_ne]; omega
      clear hmn
      go_wp2_with fail
      go_ret2
      exact ⟨fun _ => by rw [HFE.out]; rfl, fun h => absurd (HFE.out.symm.trans h) (by decide), HB1.out⟩
  · have t1 : (e1 != 0) = true := by rw [bne_iff_ne]; exact he
    have HFE := Lib.hid (show fitE ⟨nm, l⟩ vals = e1 by unfold fitE; rw [if_pos (by rw [← HE.out]; exact he), ← HE.out])
    have HNE := Lib.hid he
    clear he
    go_enter Try.func55, Try.ntmps55
    go_wp2_with fail
    refine HC.out.mono ?_
    rintro e w1 ⟨rfl, hb1⟩
    have HB1 := Lib.hid (HB0.out.trans (hb1.mono (by simp)))
    clear hb1
    go_wp2_with fail
    go_ret2
    exact ⟨fun _ => by rw [HFE.out]; rfl, fun h => absurd (HFE.out.symm.trans h) HNE.out, HB1.out⟩
/-- as FitS: the values lean on the blocks from B on alone -/
def FitSU (B : Nat) (k : KindV) (vals : List Int) (v : Value) (w : World) : Prop := (fitE k vals ≠ 0 → v = .slice none 0 0) ∧ (fitE k vals = 0 → ∃ a c, v = .slice a vals.length c ∧ IntsAt .i64 w a (fitL k.fields vals) ∧ ∀ x, a = some x → B ≤ x.block)
def FitTU (B : Nat) (k : KindV) (vals : List Int) (v : Value) (w : World) : Prop := ∃ u, v = .tuple #[u, .int .i64 (fitE k vals)] ∧ FitSU B k vals u w
theorem FitSU.below {B : Nat} {k : KindV} {vals : List Int} {v : Value} {w w' : World} (h : FitSU B k vals v w) (hb : Below w.heap.size w w') : FitSU B k vals v w' :=
  ⟨h.1, fun h0 => by obtain ⟨a, c, e, hi, hx⟩ := h.2 h0; exact ⟨a, c, e, hi.below hb, hx⟩⟩
theorem FitTU.below {B : Nat} {k : KindV} {vals : List Int} {v : Value} {w w' : World} (h : FitTU B k vals v w) (hb : Below w.heap.size w w') : FitTU B k vals v w' := by
  obtain ⟨u, e, hs⟩ := h; exact ⟨u, e, hs.below hb⟩
theorem FitPostU.tuple {B : Nat} {k : KindV} {vals : List Int} {W w' : World} {e : Ending} (h : FitPostU k vals W e w') (hB : B ≤ W.heap.size) : ∃ v, e = .returned v ∧ FitTU B k vals v w' := by
  obtain ⟨h1, h2, _⟩ := h
  by_cases h0 : fitE k vals = 0
  · obtain ⟨a, c, rfl, hi, hx⟩ := h2 h0
    exact ⟨_, rfl, _, by rw [h0], fun h => absurd h0 h, fun _ => ⟨a, c, rfl, hi, fun x e => Nat.le_trans hB (hx x e)⟩⟩
  · exact ⟨_, h1 h0, _, rfl, fun _ => rfl, fun h => absurd h h0⟩
end Go.Proofs.Ytpilpkbblkhnaaa
end
/- ref Fitted. -/
section
namespace Go.Proofs.Ytpilpkbblkhnaaa
open Go.ChangeShapes Go.WideShapes Go.ChangeAt Go.RowKit Go.Nm Go.Mem
set_option linter.unusedVariables false
section
variable {P : Program} {ops : Array Oper} {o : Oper} {F : Act} {w : World} {Q : Exit → Act → World → Prop}
end
end Go.Proofs.Ytpilpkbblkhnaaa
end
/- ref Fitted: the values lie in new memory. By program from KindFitd. -/
section
namespace Go.Proofs.Ytpilpkbblkhnaaa
open Go.ChangeShapes Go.WideShapes Go.ChangeAt Go.RowKit Go.Nm Go.Mem
set_option linter.unusedVariables false
end Go.Proofs.Ytpilpkbblkhnaaa
end
/- The reference's FittedAll. -/
section
namespace Go.Proofs.Ytpilpkbblkhnaaa
open Go.ChangeShapes Go.WideShapes Go.ChangeAt Go.RowKit Go.Nm Go.Mem Go.Maps
set_option linter.unusedVariables false
def fitGo (ks : List KindV) : List CompV → Part → Int × Part
  | [], M => (0, M)
  | c :: r, M => if c.kind < 0 ∨ (ks.length : Int) ≤ c.kind then (1, M) else if (M c.kind.toNat).isSome = true then (5, M)
    else if fitE (ks.getD c.kind.toNat default) c.vals ≠ 0 then (fitE (ks.getD c.kind.toNat default) c.vals, M)
    else fitGo ks r (updF M c.kind.toNat (fitL (ks.getD c.kind.toNat default).fields c.vals))
def fitAllE (ks : List KindV) (l : List CompV) : Int := (fitGo ks l (fun _ => none)).1
def fitAllM (ks : List KindV) (l : List CompV) : Part := (fitGo ks l (fun _ => none)).2
end Go.Proofs.Ytpilpkbblkhnaaa
end
/- A world opened into parts and closed again: the plain law of the reference's Open and of world.Check. No program is walked here. -/
section
namespace Go.Proofs.Ytpilpkbblkhnaaa
open Go.ChangeShapes Go.WideShapes Go.ChangeAt Go.RowKit Go.Nm Go.Mem Go.Maps
set_option linter.unusedVariables false
/-! Lists in increasing order of a key. -/
theorem sorted_ext {α : Type} (key : α → Int) : ∀ {l k : List α}, l.Pairwise (fun x y => key x < key y) → k.Pairwise (fun x y => key x < key y) → (∀ x, x ∈ l ↔ x ∈ k) → l = k
  | [], [], _, _, _ => rfl
  | [], b :: k, _, _, h => absurd ((h b).2 List.mem_cons_self) (by simp)
  | a :: l, [], _, _, h => absurd ((h a).1 List.mem_cons_self) (by simp)
  | a :: l, b :: k, hl, hk, h => by
    have h1 := (List.pairwise_cons.1 hl).1
    have h2 := (List.pairwise_cons.1 hk).1
    have hab : a = b := by
      rcases List.mem_cons.1 ((h a).1 List.mem_cons_self) with e | ha
      · exact e
      · rcases List.mem_cons.1 ((h b).2 List.mem_cons_self) with e | hb
        · exact e.symm
        · have := h1 b hb
          have := h2 a ha
          omega
    subst hab
    congr 1
    refine sorted_ext key (List.pairwise_cons.1 hl).2 (List.pairwise_cons.1 hk).2 fun x => ⟨fun hx => ?_, fun hx => ?_⟩
    · rcases List.mem_cons.1 ((h x).1 (List.mem_cons_of_mem _ hx)) with e | hx'
      · subst e
        have := h1 x hx
        omega
      · exact hx'
    · rcases List.mem_cons.1 ((h x).2 (List.mem_cons_of_mem _ hx)) with e | hx'
      · subst e
        have := h2 x hx
        omega
      · exact hx'
/-- the values of a map at the first N keys -/
def listK {α β : Type} (mk : Nat → β → α) (G : Nat → Option β) (N : Nat) : List α := (List.range N).filterMap fun i => (G i).map (mk i)
theorem mem_listK {α β : Type} {mk : Nat → β → α} {G : Nat → Option β} {N : Nat} {x : α} : x ∈ listK mk G N ↔ ∃ i, i < N ∧ ∃ b, G i = some b ∧ mk i b = x := by
  unfold listK
  simp only [List.mem_filterMap, List.mem_range, Option.map_eq_some_iff]
theorem listK_sorted {α β : Type} {mk : Nat → β → α} (key : α → Int) (hk : ∀ i b, key (mk i b) = (i : Int)) (G : Nat → Option β) (N : Nat) : (listK mk G N).Pairwise (fun x y => key x < key y) := by
  unfold listK
  rw [List.pairwise_filterMap]
  refine List.Pairwise.imp ?_ (List.pairwise_lt_range (n := N))
  intro a b hab x hx y hy
  obtain ⟨p, _, rfl⟩ := Option.map_eq_some_iff.1 hx
  obtain ⟨q, _, rfl⟩ := Option.map_eq_some_iff.1 hy
  rw [hk, hk]
  omega
theorem listed_listK (F : Part) : listed F = listK (fun (i : Nat) L => (⟨(i : Int), L⟩ : CompV)) F 16 := rfl
/-! Components. -/
theorem heldAt_iff (k : List KindV) (l : List CompV) : ∀ n, n ≤ l.length → (heldAt k l n = true ↔ ((l.take n).Pairwise (fun x y => x.kind < y.kind) ∧ ∀ c ∈ l.take n, 0 ≤ c.kind ∧ c.kind < k.length ∧ holdsB (k.getD c.kind.toNat default) c.vals = true)) := by
  intro n
  induction n with
  | zero => intro _; simp [heldAt]
  | succ n ih =>
    intro hn
    have hg : l.getD n default = l[n]'(by omega) := by rw [List.getD_eq_getElem?_getD, List.getElem?_eq_getElem (by omega)]; rfl
    have ht : l.take (n + 1) = l.take n ++ [l[n]'(by omega)] := by rw [List.take_add_one, List.getElem?_eq_getElem (by omega)]; rfl
    rw [heldAt_succ, hg, ht, List.pairwise_append]
    simp only [Bool.and_eq_true, decide_eq_true_eq, List.pairwise_cons, List.mem_append, List.mem_singleton, List.Pairwise.nil, List.not_mem_nil]
    constructor
    · rintro ⟨h1, h2, h3, h4⟩
      obtain ⟨p1, p2⟩ := (ih (by omega)).1 h1
      have hlow := heldAt_low k l n h1
      have hall : ∀ x ∈ l.take n, x.kind ≤ lastK l n := by
        intro x hx
        obtain ⟨i, hi, rfl⟩ := List.getElem_of_mem hx
        have hin : i < n := by have := List.length_take_le n l; omega
        have hlk : lastK l n = (l[n - 1]'(by omega)).kind := by
          unfold lastK
          rw [if_neg (by omega), List.getD_eq_getElem?_getD, List.getElem?_eq_getElem (by omega)]; rfl
        rw [hlk, List.getElem_take]
        by_cases e : i = n - 1
        · subst e; omega
        · have := List.pairwise_iff_getElem.1 p1 i (n - 1) hi (by rw [List.length_take]; omega) (by omega)
          rw [List.getElem_take, List.getElem_take] at this
          omega
      refine ⟨⟨p1, ⟨fun _ h => absurd h (by simp), trivial⟩, fun x hx y hy => by subst hy; have := hall x hx; omega⟩, fun c hc => ?_⟩
      rcases hc with hc | hc
      · exact p2 c hc
      · subst hc; exact ⟨by omega, h3, h4⟩
    · rintro ⟨⟨p1, _, p3⟩, p4⟩
      have hn' := p4 _ (Or.inr rfl)
      refine ⟨(ih (by omega)).2 ⟨p1, fun c hc => p4 c (Or.inl hc)⟩, ?_, hn'.2.1, hn'.2.2⟩
      unfold lastK
      split
      · omega
      · rw [List.getD_eq_getElem?_getD, List.getElem?_eq_getElem (by omega)]
        refine p3 _ ?_ _ rfl
        simp only [Option.getD_some]
        rw [List.mem_take_iff_getElem]
        exact ⟨n - 1, by omega, rfl⟩
theorem heldB_iff (k : List KindV) (l : List CompV) : heldB k l = true ↔ (l.Pairwise (fun x y => x.kind < y.kind) ∧ ∀ c ∈ l, 0 ≤ c.kind ∧ c.kind < k.length ∧ holdsB (k.getD c.kind.toNat default) c.vals = true) := by
  have := heldAt_iff k l l.length (Nat.le_refl _)
  rw [List.take_length] at this
  exact this
theorem fitGo_ok (ks : List KindV) : ∀ (l : List CompV) (M : Part), (fitGo ks l M).1 = 0 → (∀ c ∈ l, 0 ≤ c.kind ∧ c.kind < ks.length ∧ fitE (ks.getD c.kind.toNat default) c.vals = 0 ∧ M c.kind.toNat = none ∧ (fitGo ks l M).2 c.kind.toNat = some (fitL (ks.getD c.kind.toNat default).fields c.vals)) ∧ (∀ i, (∀ c ∈ l, c.kind.toNat ≠ i) → (fitGo ks l M).2 i = M i)
  | [], M, _ => ⟨fun c h => absurd h (by simp), fun i _ => rfl⟩
  | c :: r, M, h => by
    unfold fitGo at h ⊢
    split at h
    · simp at h
    · rename_i h1
      rw [if_neg h1]
      split at h
      · simp at h
      · rename_i h2
        rw [if_neg h2]
        split at h
        · rename_i h3
          exact absurd h h3
        · rename_i h3
          rw [if_neg h3]
          have h3' : fitE (ks.getD c.kind.toNat default) c.vals = 0 := Decidable.not_not.1 h3
          have h2' : M c.kind.toNat = none := by
            cases hm : M c.kind.toNat with
            | none => rfl
            | some L => rw [hm] at h2; exact absurd rfl h2
          obtain ⟨q1, q2⟩ := fitGo_ok ks r _ h
          have hne : ∀ d ∈ r, d.kind.toNat ≠ c.kind.toNat := by
            intro d hd e
            have := (q1 d hd).2.2.2.1
            rw [e, updF_same] at this
            cases this
          refine ⟨fun d hd => ?_, fun i hi => ?_⟩
          · rcases List.mem_cons.1 hd with e | hd'
            · subst e
              refine ⟨by omega, by omega, h3', h2', ?_⟩
              rw [q2 _ hne, updF_same]
            · obtain ⟨g1, g2, g3, g4, g5⟩ := q1 d hd'
              rw [updF_other _ _ (hne d hd')] at g4
              exact ⟨g1, g2, g3, g4, g5⟩
          · rw [q2 i (fun d hd => hi d (List.mem_cons_of_mem _ hd)), updF_other _ _ (fun e => hi c List.mem_cons_self e.symm)]
/-! Items. -/
theorem gensAt_iff (l : List Int) : ∀ n, (gensAt l n = true ↔ ∀ i, i < n → 0 ≤ l.getD i 0 ∧ l.getD i 0 ≤ 1073741824) := by
  intro n
  induction n with
  | zero => simp [gensAt]
  | succ n ih =>
    rw [gensAt_succ, Bool.and_eq_true, ih, Bool.and_eq_true, decide_eq_true_eq, decide_eq_true_eq]
    constructor
    · rintro ⟨h1, h2⟩ i hi
      by_cases e : i = n
      · subst e; exact h2
      · exact h1 i (by omega)
    · intro h
      exact ⟨fun i hi => h i (by omega), h n (by omega)⟩
def itemFit (w : WorldV) (y : ItemV) : Prop := 0 ≤ y.n ∧ y.n < w.gens.length ∧ y.gen = w.gens.getD y.n.toNat 0 ∧ y.gen ≠ 1073741824 ∧ heldB w.kinds y.comps = true
theorem itemsAt_iff (w : WorldV) : ∀ n, n ≤ w.items.length → (itemsAt w n = true ↔ ((w.items.take n).Pairwise (fun x y => x.n < y.n) ∧ ∀ y ∈ w.items.take n, itemFit w y)) := by
  intro n
  induction n with
  | zero => intro _; simp [itemsAt]
  | succ n ih =>
    intro hn
    have hg : w.items.getD n default = w.items[n]'(by omega) := by rw [List.getD_eq_getElem?_getD, List.getElem?_eq_getElem (by omega)]; rfl
    have ht : w.items.take (n + 1) = w.items.take n ++ [w.items[n]'(by omega)] := by rw [List.take_add_one, List.getElem?_eq_getElem (by omega)]; rfl
    rw [itemsAt_succ, hg, ht, List.pairwise_append]
    simp only [Bool.and_eq_true, decide_eq_true_eq, List.pairwise_cons, List.mem_append, List.mem_singleton, List.Pairwise.nil, List.not_mem_nil]
    constructor
    · rintro ⟨h1, h2, h3, h4, h5, h6⟩
      obtain ⟨p1, p2⟩ := (ih (by omega)).1 h1
      have hlow := itemsAt_low w n h1
      have hall : ∀ x ∈ w.items.take n, x.n ≤ lastN w.items n := by
        intro x hx
        obtain ⟨i, hi, rfl⟩ := List.getElem_of_mem hx
        have hin : i < n := by have := List.length_take_le n w.items; omega
        have hlk : lastN w.items n = (w.items[n - 1]'(by omega)).n := by
          unfold lastN
          rw [if_neg (by omega), List.getD_eq_getElem?_getD, List.getElem?_eq_getElem (by omega)]; rfl
        rw [hlk, List.getElem_take]
        by_cases e : i = n - 1
        · subst e; omega
        · have := List.pairwise_iff_getElem.1 p1 i (n - 1) hi (by rw [List.length_take]; omega) (by omega)
          rw [List.getElem_take, List.getElem_take] at this
          omega
      refine ⟨⟨p1, ⟨fun _ h => absurd h (by simp), trivial⟩, fun x hx y hy => by subst hy; have := hall x hx; omega⟩, fun c hc => ?_⟩
      rcases hc with hc | hc
      · exact p2 c hc
      · subst hc; exact ⟨by omega, h3, h4, h5, h6⟩
    · rintro ⟨⟨p1, _, p3⟩, p4⟩
      obtain ⟨g1, g2, g3, g4, g5⟩ := p4 _ (Or.inr rfl)
      refine ⟨(ih (by omega)).2 ⟨p1, fun c hc => p4 c (Or.inl hc)⟩, ?_, g2, g3, g4, g5⟩
      unfold lastN
      split
      · omega
      · rw [List.getD_eq_getElem?_getD, List.getElem?_eq_getElem (by omega)]
        refine p3 _ ?_ _ rfl
        simp only [Option.getD_some]
        rw [List.mem_take_iff_getElem]
        exact ⟨n - 1, by omega, rfl⟩
structure FlatV where
  kinds : List KindV
  gens : List Int
  parts : Nat → Option Part
theorem kindsE_len {l : List KindV} (h : kindsE l = 0) : l.length ≤ 16 := by
  unfold kindsE at h
  split at h
  · cases h
  · omega
end Go.Proofs.Ytpilpkbblkhnaaa
end
