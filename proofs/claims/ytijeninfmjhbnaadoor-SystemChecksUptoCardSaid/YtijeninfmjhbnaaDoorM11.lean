/- Lemmas for the law SystemChecks: KindFitdU, FitAll. No conditions. -/
import Derived.Test.YtijeninfmjhbnaaDoorM10
import Derived.Test.YtijeninfmjhbnaaDoorM09
import Derived.Test.YtijeninfmjhbnaaDoorM05
import Derived.Test.YtijeninfmjhbnaaDoorM06
/- ref Fitted: the values lie in new memory. By program from KindFitd. -/
section
namespace Go.Proofs.YtijeninfmjhbnaaDoor
open Go.ChangeShapes Go.WideShapes Go.ChangeAt Go.RowKit Go.Nm Go.Mem
set_option linter.unusedVariables false
set_option maxHeartbeats 8000000 in
theorem ref_FittedU (k : KindV) (a : Option Addr) (n cap : Nat) (vals : List Int) (av : Option Addr) (m cv : Nat) (hn : k.fields.length = n) (hm : vals.length = m) (hm9 : m ≤ 9223372036854775807) (hnm : k.name.size ≤ 9223372036854775807) (hnc : n ≤ cap) (hcm : cap ≤ 9223372036854775807) (W : World) (hz : SlAt 3 FieldAt W a k.fields) (hv : IntsAt .i64 W av vals) :
    Calls Tryd.prog 55 #[.agg #[.string k.name, .slice a n cap], .slice av m cv] W (FitPostU k vals W) := by
  have hb0 := (Below.refl W.heap.size W).alloc (Nat.le_refl _) (.cells #[.string k.name, .slice a n cap] 43)
  have hc := ref_KindError k a n cap hn hnm (by omega) (W.alloc (.cells #[.string k.name, .slice a n cap] 43)) (hz.below FieldAt.abides hb0)
  have x0 := heap_alloc_new W (.cells #[.string k.name, .slice a n cap] 43)
  have HB0 := Lib.hid hb0
  have HX0 := Lib.hid x0
  have HN := Lib.hid hn
  have HM := Lib.hid hm
  have HZ := Lib.hid hz
  have HV := Lib.hid hv
  obtain ⟨nm, l⟩ := k
  simp only at hc HX0 HB0 hnm HN HZ ⊢
  obtain ⟨e1, he1⟩ : ∃ e1, e1 = kindE ⟨nm, l⟩ := ⟨_, rfl⟩
  rw [← he1] at hc
  have HE := Lib.hid he1
  have HC := Lib.hid hc
  clear hb0 hc x0 hn hm hz hv he1
  by_cases he : e1 = 0
  · subst he
    obtain ⟨hn8, hok⟩ := kind_ok HE.out.symm
    simp only at hn8 hok
    rw [HN.out] at hn8
    have HOK := Lib.hid hok
    clear hok
    go_enter Tryd.func55, Tryd.ntmps55
    go_wp2_with fail
    refine HC.out.mono ?_
    rintro e w1 ⟨rfl, hb1⟩
    have hx1 := heap_below HX0.out hb1
    have c1 : w1.cell? ⟨W.heap.size, 1, none⟩ = some (.slice a n cap) := by rw [cell_of_row _ _ 1 _ _ _ hx1]; rfl
    have hbw := HB0.out.trans (hb1.mono (by simp))
    have HB1 := Lib.hid hbw
    have HX1 := Lib.hid hx1
    have hs1 := hbw.size
    clear hb1 hx1 hbw HC HX0 HB0
    by_cases hmn : m = n
    · subst hmn
      have HFE := Lib.hid (show fitE ⟨nm, l⟩ vals = 0 by unfold fitE; rw [if_neg (by rw [← HE.out]; simp), if_neg (by simp only; rw [HM.out, HN.out]; simp)])
      have t0 : ((m : Int) != (m : Int)) = false := by simp
      go_wp2_with fail
      clear c1
      go_loopg [7, 8, 22] m (fun gk v7 v8 vi wx => ∃ (i : Nat) (out : List Int), i ≤ m ∧ gk = m - i ∧ vi = .int .i64 i ∧ out.length = i ∧ (∀ j (h1 : j < l.length) (h2 : j < vals.length), j < i → out.getD j 0 = nearV l[j] vals[j]) ∧ wx.ownsRow (W.heap.size + 1) 3 1 v7 i (vints .i64 out) ∧ wx.heap[W.heap.size]? = some (.cells #[.string nm, .slice a m cap] 43 (0, 0)) ∧ Below W.heap.size W wx)
      case atStart => exact ⟨0, [], Nat.zero_le _, rfl, rfl, rfl, fun j _ _ h => absurd h (by omega), World.ownsRow_nil _ _ _ _, HX1.out, HB1.out⟩
      case round =>
        obtain ⟨i, out, hi, g2, rfl, hol, hat, hown, hx0, hb⟩ := hrel
        have G2 := Lib.hid g2
        have HOL := Lib.hid hol
        have HAT := Lib.hid hat
        have HO := Lib.hid hown
        have HX := Lib.hid hx0
        have HB := Lib.hid hb
        have hbs := hb.size
        obtain ⟨ao, ca, rfl⟩ := own_slice hown
        clear g2 hol hat hown hx0 hb HX1 HB1
        by_cases hlt : i < m
        · obtain ⟨x, rfl, hx, hix⟩ := (HZ.out.below FieldAt.abides HB.out) (by rw [HN.out]; omega)
          obtain ⟨z, rfl, hzl, hiz⟩ := (HV.out.below HB.out) (by rw [HM.out]; omega)
          obtain ⟨k0, k1, k2, k3⟩ := hix i (by rw [HN.out]; exact hlt)
          have kv := hiz i (by rw [HM.out]; exact hlt)
          obtain ⟨y, hy⟩ : ∃ y, y = l[i]'(by rw [HN.out]; exact hlt) := ⟨_, rfl⟩
          rw [← hy] at k0 k1 k2 k3
          obtain ⟨u, hu⟩ : ∃ u, u = vals.getD i 0 := ⟨_, rfl⟩
          have kv : wr.cell? (z.add i) = some (.int .i64 u) := by rw [hu]; exact kv
          have hoky : okF y = true := by rw [hy]; exact HOK.out i (by rw [HN.out]; exact hlt)
          have HNR := Lib.hid (nearest_at y u hoky k3)
          have HY := Lib.hid hy
          have HU := Lib.hid hu
          have c1 : wr.cell? ⟨W.heap.size, 1, none⟩ = some (.slice (some x) m cap) := by rw [cell_of_row _ _ 1 _ _ _ HX.out]; rfl
          clear hix hiz hy hu hoky k3
          go_wp2_with fail
          refine wp_region_facts_t rfl 12 (by kernel_rfl) (F_fitd (.slice ao i ca) W.heap.size i m m cap cv u x z y) (F_fitd_mono (.slice ao i ca) W.heap.size i m m cap cv u x z y) ?_ ?_
          · refine ⟨?_, ?_, ?_, ?_, ?_, ?_, ?_, ?_, ?_, ?_, ?_, ?_, trivial⟩
            · intro vs w' F hb hd hF hl hT
              have e := ((hF 7).trans (look_at _ 7 13 _ _ (by kernel_rfl) (by kernel_rfl) hl)).trans ((hT 13 (by decide)).trans (show _ = Value.slice ao i ca from by kernel_rfl))
              exact one_move _ rfl (by first | exact Or.inl rfl | exact Or.inr rfl) ⟨_, rfl, Below.refl _ _, e⟩
            · intro vs w' F hb hd hF hl hT
              have e := (hF 2).trans (look_out _ 2 _ _ (by kernel_rfl))
              exact one_field _ _ _ rfl rfl _ _ e _ (fun w => by kernel_rfl) ⟨_, rfl, Below.refl _ _, rfl⟩
            · intro vs w' F hb hd hF hl hT
              have e := ((hF 26).trans (look_at _ 26 1 _ _ (by kernel_rfl) (by kernel_rfl) hl)).trans (dep_of (Fact := F_fitd (.slice ao i ca) W.heap.size i m m cap cv u x z y) hd 1 (by kernel_rfl))
              exact one_load _ _ rfl rfl _ _ e (cell_abides c1 hb) (by kernel_rfl) ⟨_, rfl, Below.refl _ _, rfl⟩
            · intro vs w' F hb hd hF hl hT
              have e := (hF 8).trans (look_out _ 8 _ _ (by kernel_rfl))
              exact one_move _ rfl (by first | exact Or.inl rfl | exact Or.inr rfl) ⟨_, rfl, Below.refl _ _, e⟩
            · intro vs w' F hb hd hF hl hT
              have ex := (((hF 27).trans (look_at _ 27 2 _ _ (by kernel_rfl) (by kernel_rfl) hl)).trans (dep_of (Fact := F_fitd (.slice ao i ca) W.heap.size i m m cap cv u x z y) hd 2 (by kernel_rfl)))
              have ey := (((hF 28).trans (look_at _ 28 3 _ _ (by kernel_rfl) (by kernel_rfl) hl)).trans (dep_of (Fact := F_fitd (.slice ao i ca) W.heap.size i m m cap cv u x z y) hd 3 (by kernel_rfl)))
              exact one_index 41 _ _ rfl rfl (.slice (some x) m cap) (.int .i64 i) (.pointer (some (x.add (i * 3)))) ex ey (fun w => by clear hb hd hF hl ex ey; go_simp) ⟨_, rfl, Below.refl _ _, rfl⟩
            · intro vs w' F hb hd hF hl hT
              have e := (((hF 29).trans (look_at _ 29 4 _ _ (by kernel_rfl) (by kernel_rfl) hl)).trans (dep_of (Fact := F_fitd (.slice ao i ca) W.heap.size i m m cap cv u x z y) hd 4 (by kernel_rfl)))
              exact one_load3 40 _ rfl rfl _ _ _ _ e (cell_abides k0 hb) (cell_abides k1 hb) (cell_abides k2 hb) _ Tryd.underlying40 rfl (by kernel_rfl) ⟨_, rfl, Below.refl _ _, rfl⟩
            · intro vs w' F hb hd hF hl hT
              have e := (hF 1).trans (look_out _ 1 _ _ (by kernel_rfl))
              exact one_move _ rfl (by first | exact Or.inl rfl | exact Or.inr rfl) ⟨_, rfl, Below.refl _ _, e⟩
            · intro vs w' F hb hd hF hl hT
              have e := (hF 8).trans (look_out _ 8 _ _ (by kernel_rfl))
              exact one_move _ rfl (by first | exact Or.inl rfl | exact Or.inr rfl) ⟨_, rfl, Below.refl _ _, e⟩
            · intro vs w' F hb hd hF hl hT
              have ex := (((hF 31).trans (look_at _ 31 6 _ _ (by kernel_rfl) (by kernel_rfl) hl)).trans (dep_of (Fact := F_fitd (.slice ao i ca) W.heap.size i m m cap cv u x z y) hd 6 (by kernel_rfl)))
              have ey := (((hF 32).trans (look_at _ 32 7 _ _ (by kernel_rfl) (by kernel_rfl) hl)).trans (dep_of (Fact := F_fitd (.slice ao i ca) W.heap.size i m m cap cv u x z y) hd 7 (by kernel_rfl)))
              exact one_index 23 _ _ rfl rfl (.slice (some z) m cv) (.int .i64 i) (.pointer (some (z.add i))) ex ey (fun w => by clear hb hd hF hl ex ey; go_simp) ⟨_, rfl, Below.refl _ _, rfl⟩
            · intro vs w' F hb hd hF hl hT
              have e := (((hF 33).trans (look_at _ 33 8 _ _ (by kernel_rfl) (by kernel_rfl) hl)).trans (dep_of (Fact := F_fitd (.slice ao i ca) W.heap.size i m m cap cv u x z y) hd 8 (by kernel_rfl)))
              exact one_load _ _ rfl rfl _ _ e (cell_abides kv hb) (by kernel_rfl) ⟨_, rfl, Below.refl _ _, rfl⟩
            · intro vs w' F hb hd hF hl hT
              have e1 := (((hF 30).trans (look_at _ 30 5 _ _ (by kernel_rfl) (by kernel_rfl) hl)).trans (dep_of (Fact := F_fitd (.slice ao i ca) W.heap.size i m m cap cv u x z y) hd 5 (by kernel_rfl)))
              have e2 := (((hF 34).trans (look_at _ 34 9 _ _ (by kernel_rfl) (by kernel_rfl) hl)).trans (dep_of (Fact := F_fitd (.slice ao i ca) W.heap.size i m m cap cv u x z y) hd 9 (by kernel_rfl)))
              refine one_call _ _ rfl rfl (enters_of Tryd.func35 (by kernel_rfl) rfl) #[.agg #[.string y.name, .int .i64 y.bits, .int .i64 y.low], .int .i64 u] (eval2 e1 e2) ?_
              refine (HNR.out w').mono ?_
              rintro e3 w2 ⟨rfl, hb2⟩
              exact ⟨_, rfl, _, rfl, hb2, rfl⟩
            · intro vs w' F hb hd hF hl hT
              have e := (((hF 35).trans (look_at _ 35 10 _ _ (by kernel_rfl) (by kernel_rfl) hl)).trans (dep_of (Fact := F_fitd (.slice ao i ca) W.heap.size i m m cap cv u x z y) hd 10 (by kernel_rfl)))
              refine one_slice1 23 3 _ rfl rfl _ e Tryd.underlying23 (by kernel_rfl) ?_
              exact ⟨_, rfl, (Below.refl _ _).alloc (Nat.le_refl _) _, _, rfl, ints_one w' _ _⟩
          · intro vs W1 hl hb hI
            have i0 : vs.getD 0 undef = .slice ao i ca := hI 0 (by omega)
            obtain ⟨X, i11, hxi⟩ := hI 11 (by omega)
            have hown1 := own_below HO.out hb
            have hx1 := heap_below HX.out hb
            have hBW := HB.out.trans (hb.mono hbs)
            have hsz := hBW.size
            have hsz1 : W.heap.size + 1 ≤ W1.heap.size := lt_of_heap hx1
            obtain ⟨v0, v1, v2, v3, v4, v5, v6, v7, v8, v9, v10, v11, v12, v13, rfl⟩ := list14 hl
            replace i0 : v0 = .slice ao i ca := i0
            replace i11 : v11 = .slice (some ⟨X, 0, none⟩) 1 1 := i11
            subst i0 i11
            have HO1 := Lib.hid hown1
            have HXI := Lib.hid hxi
            have HX2 := Lib.hid hx1
            have HBW := Lib.hid hBW
            clear hI hl hb hown1 hx1 hBW hxi HNR HO HX k0 k1 k2 kv
            simp only [fillAll, Act.put, List.setIfInBounds_toArray, List.set_cons_succ, List.set_cons_zero]
            refine wpList_append_ints rfl _ _ 23 rfl (W.heap.size + 1) 3 .i64 8 Tryd.underlying23 (by kernel_rfl) (.slice ao i ca) i out rfl HO1.out (some ⟨X, 0, none⟩) 1 1 [nearV y u] rfl rfl HXI.out (by unfold maxLen; omega) (by omega) hsz1 ?_
            intro v' w' hown' hg hor
            have HX3 := Lib.hid (show w'.heap[W.heap.size]? = some (.cells #[.string nm, .slice (some x) m cap] 43 (0, 0)) from by
              rw [hg.block _ hsz1 (fun e => by have := (own_lt HO1.out _ e.symm).1; omega)]; exact HX2.out)
            have HB3 := Lib.hid (HBW.out.grown hg hsz (fun g hg2 => Nat.le_of_succ_le (own_lt HO1.out g hg2).1))
            have HO3 := Lib.hid hown'
            have HATN : Hid (∀ j (h1 : j < l.length) (h2 : j < vals.length), j < i + 1 → (out ++ [nearV y u]).getD j 0 = nearV l[j] vals[j]) := Lib.hid (fun j h1 h2 hj => by
              by_cases hji : j < i
              · rw [List.getD_eq_getElem?_getD, List.getElem?_append_left (by rw [HOL.out]; exact hji), ← List.getD_eq_getElem?_getD]
                exact HAT.out j h1 h2 hji
              · obtain rfl : j = i := by omega
                rw [List.getD_eq_getElem?_getD, List.getElem?_append_right (by rw [HOL.out]; exact Nat.le_refl _), HOL.out, Nat.sub_self]
                have e2 : vals[j] = u := by rw [HU.out, List.getD_eq_getElem?_getD, List.getElem?_eq_getElem h2]; rfl
                rw [e2, ← HY.out]; rfl)
            clear hown' hg hor HO1 HXI HX2 HBW
            go_wp2_with fail
            go_roundg (m - (i + 1))
            case measure => rw [G2.out]; omega
            case rel => exact ⟨i + 1, out ++ [nearV y u], hlt, rfl, by go_num, by rw [List.length_append, HOL.out]; rfl, HATN.out, HO3.out, HX3.out, HB3.out⟩
        · have hie : i = m := by omega
          have hfl : fitL l vals = out := by
            unfold fitL
            refine List.ext_getElem (by rw [List.length_zipWith, HN.out, HM.out, HOL.out]; omega) (fun j h1 h2 => ?_)
            rw [List.length_zipWith] at h1
            rw [List.getElem_zipWith]
            have := HAT.out j (by omega) (by omega) (by rw [HOL.out] at h2; omega)
            rw [List.getD_eq_getElem?_getD, List.getElem?_eq_getElem h2] at this
            exact this.symm
          have HFL := Lib.hid hfl
          have HIN := Lib.hid (IntsAt.of_own HO.out HOL.out.symm)
          clear hfl
          subst hie
          go_wp2_with fail
          go_ret2
          exact ⟨fun h => absurd HFE.out h, fun _ => ⟨_, ca, by rw [HM.out]; rfl, by simp only; rw [HFL.out]; exact HIN.out, fun x e => by subst e; exact Nat.le_of_succ_le (own_lt HO.out x.block rfl).1⟩, HB.out⟩
    · have HFE := Lib.hid (show fitE ⟨nm, l⟩ vals = 1 by unfold fitE; rw [if_neg (by rw [← HE.out]; simp), if_pos (by simp only; rw [HM.out, HN.out]; exact hmn)])
      have t0 : ((m : Int) != (n : Int)) = true := by rw [bne_iff_ne]; omega
      clear hmn
      go_wp2_with fail
      go_ret2
      exact ⟨fun _ => by rw [HFE.out]; rfl, fun h => absurd (HFE.out.symm.trans h) (by decide), HB1.out⟩
  · have t1 : (e1 != 0) = true := by rw [bne_iff_ne]; exact he
    have HFE := Lib.hid (show fitE ⟨nm, l⟩ vals = e1 by unfold fitE; rw [if_pos (by rw [← HE.out]; exact he), ← HE.out])
    have HNE := Lib.hid he
    clear he
    go_enter Tryd.func55, Tryd.ntmps55
    go_wp2_with fail
    refine HC.out.mono ?_
    rintro e w1 ⟨rfl, hb1⟩
    have HB1 := Lib.hid (HB0.out.trans (hb1.mono (by simp)))
    clear hb1
    go_wp2_with fail
    go_ret2
    exact ⟨fun _ => by rw [HFE.out]; rfl, fun h => absurd (HFE.out.symm.trans h) HNE.out, HB1.out⟩
end Go.Proofs.YtijeninfmjhbnaaDoor
end
/- The reference's FittedAll. -/
section
namespace Go.Proofs.YtijeninfmjhbnaaDoor
open Go.ChangeShapes Go.WideShapes Go.ChangeAt Go.RowKit Go.Nm Go.Mem Go.Maps
set_option linter.unusedVariables false
def fitGo (ks : List KindV) : List CompV → Part → Int × Part
  | [], M => (0, M)
  | c :: r, M => if c.kind < 0 ∨ (ks.length : Int) ≤ c.kind then (1, M) else if (M c.kind.toNat).isSome = true then (5, M)
    else if fitE (ks.getD c.kind.toNat default) c.vals ≠ 0 then (fitE (ks.getD c.kind.toNat default) c.vals, M)
    else fitGo ks r (updF M c.kind.toNat (fitL (ks.getD c.kind.toNat default).fields c.vals))
def fitAllE (ks : List KindV) (l : List CompV) : Int := (fitGo ks l (fun _ => none)).1
def fitAllM (ks : List KindV) (l : List CompV) : Part := (fitGo ks l (fun _ => none)).2
def FitAllPost (ks : List KindV) (l : List CompV) (W : World) (e : Ending) (w' : World) : Prop :=
  ((fitAllE ks l ≠ 0 ∧ e = .returned (.tuple #[.map none, .int .i64 (fitAllE ks l)])) ∨ (fitAllE ks l = 0 ∧ ∃ b n, e = .returned (.tuple #[.map (some b), .int .i64 0]) ∧ W.heap.size ≤ b ∧ MapI w' b n (fitAllM ks l))) ∧ Below W.heap.size W w'
theorem list13 {α : Type} {vs : List α} (h : vs.length = 13) : ∃ x0 x1 x2 x3 x4 x5 x6 x7 x8 x9 x10 x11 x12, vs = [x0, x1, x2, x3, x4, x5, x6, x7, x8, x9, x10, x11, x12] := by
  obtain ⟨x0, t0, rfl, h0⟩ := cons_of h
  obtain ⟨x1, t1, rfl, h1⟩ := cons_of h0
  obtain ⟨x2, t2, rfl, h2⟩ := cons_of h1
  obtain ⟨x3, t3, rfl, h3⟩ := cons_of h2
  obtain ⟨x4, t4, rfl, h4⟩ := cons_of h3
  obtain ⟨x5, t5, rfl, h5⟩ := cons_of h4
  obtain ⟨x6, t6, rfl, h6⟩ := cons_of h5
  obtain ⟨x7, t7, rfl, h7⟩ := cons_of h6
  obtain ⟨x8, t8, rfl, h8⟩ := cons_of h7
  obtain ⟨x9, t9, rfl, h9⟩ := cons_of h8
  obtain ⟨x10, t10, rfl, h10⟩ := cons_of h9
  obtain ⟨x11, t11, rfl, h11⟩ := cons_of h10
  obtain ⟨x12, t12, rfl, h12⟩ := cons_of h11
  exact ⟨x0, x1, x2, x3, x4, x5, x6, x7, x8, x9, x10, x11, x12, by rw [List.eq_nil_of_length_eq_zero h12]⟩
def F_fa (B wr kn kc kb ko q nf cf nv cv : Nat) (av af : Option Addr) (nm : ByteArray) (E : Int) (K : KindV) (vals : List Int) (jq : Nat) (v : Value) (w : World) : Prop :=
  match jq with
  | 0 => v = .slice (some ⟨kb, ko, none⟩) kn kc
  | 1 => v = .pointer (some ⟨wr, 0, none⟩)
  | 2 => v = .int .i64 (q : Int)
  | 3 => v = .pointer (some ⟨kb, ko + q * 2, none⟩)
  | 4 => v = .agg #[.string nm, .slice af nf cf]
  | 5 => v = .pointer (some ⟨wr, 1, none⟩)
  | 6 => v = .slice av nv cv
  | 7 => FitTU B K vals v w
  | 8 => FitTU B K vals v w
  | 9 => FitSU B K vals v w
  | 10 => v = .int .i64 E
  | 11 => FitSU B K vals v w
  | 12 => v = .int .i64 E
  | _ => True
theorem F_fa_mono (B wr kn kc kb ko q nf cf nv cv : Nat) (av af : Option Addr) (nm : ByteArray) (E : Int) (K : KindV) (vals : List Int) : Facts (F_fa B wr kn kc kb ko q nf cf nv cv  av af  nm  E  K  vals ) := ⟨by
  intro jq v w w' h hb
  unfold F_fa at h ⊢
  split at h
  all_goals first
    | exact h
    | exact FitSU.below h hb
    | exact FitTU.below h hb
    | trivial⟩

set_option maxHeartbeats 1000000 in
theorem ref_FittedAll (ks : List KindV) (l : List CompV) (ka a : Option Addr) (kn kc n ca : Nat) (hkn : ks.length = kn) (hn : l.length = n) (hk1 : kn ≤ 1048576) (h1 : n ≤ 1048576) (hvl : ∀ z ∈ l, z.vals.length ≤ 1048576) (W : World) (hzk : SlAt 2 KindAt W ka ks) (hz : SlAt 2 CompAt W a l) :
    Calls Tryd.prog 28 #[.slice ka kn kc, .slice a n ca] W (FitAllPost ks l W) := by
  obtain ⟨RE, hRE⟩ : ∃ R, R = fitAllE ks l := ⟨_, rfl⟩
  obtain ⟨RM, hRM⟩ : ∃ R, R = fitAllM ks l := ⟨_, rfl⟩
  unfold FitAllPost
  rw [← hRE, ← hRM]
  have HRE := Lib.hid hRE
  have HRM := Lib.hid hRM
  have HN := Lib.hid hkn
  have HM := Lib.hid hn
  have HZK := Lib.hid hzk
  have HZ := Lib.hid hz
  have HV := Lib.hid hvl
  obtain ⟨M, hM⟩ : ∃ M, M = W.heap.size := ⟨_, rfl⟩
  have hmade : MapI (W.alloc (.map #[] 0)) M 0 (fun _ => none) := by rw [hM]; exact MapI.new W
  have HMADE := Lib.hid hmade
  have hb0 := (Below.refl W.heap.size W).alloc (Nat.le_refl _) (.map #[] 0)
  have HB0 := Lib.hid hb0
  have HMM := Lib.hid hM
  have hmk := @run_makeMap Tryd.prog
  clear hRE hRM hkn hn hzk hz hvl hmade hb0
  go_enter Tryd.func28, Tryd.ntmps28
  go_wp2_with fail
  rw [← hM]
  clear hM
  go_loopg [16, 8, 9, 10, 11, 12] n (fun gk v16 _ _ _ _ _ wx => ∃ (i : Nat) (F : Part), i ≤ n ∧ gk = n - i ∧ v16 = .int .i64 i ∧ fitGo ks (l.drop i) F = (RE, RM) ∧ MapI wx M i F ∧ Below W.heap.size W wx)
  case atStart => exact ⟨0, fun _ => none, Nat.zero_le _, rfl, rfl, by rw [HRE.out, HRM.out]; rfl, HMADE.out, HB0.out⟩
  case round =>
    obtain ⟨i, F, hi0, g2, rfl, hgo, hmap, hb⟩ := hrel
    have G2 := Lib.hid g2
    have HGO := Lib.hid hgo
    have HB := Lib.hid hb
    have HMAP := Lib.hid hmap
    clear g2 hgo hmap hb
    by_cases hi : i < n
    · obtain ⟨x, rfl, _, _⟩ := HZ.out (by rw [HM.out]; omega)
      obtain ⟨xb, xo, rfl, av, cv, hcl, hiv⟩ := comp_cells (HZ.out.below CompAt.abides HB.out) i (by rw [HM.out]; exact hi)
      have hgo := HGO.out
      rw [List.drop_eq_getElem_cons (by rw [HM.out]; exact hi)] at hgo
      obtain ⟨y, hy⟩ : ∃ y, y = l[i]'(by rw [HM.out]; exact hi) := ⟨_, rfl⟩
      have hyv := HV.out _ (List.getElem_mem (by rw [HM.out]; exact hi) : l[i]'(by rw [HM.out]; exact hi) ∈ l)
      rw [← hy] at hcl hiv hgo hyv
      rw [fitGo] at hgo
      obtain ⟨nv, hnv⟩ : ∃ nv, nv = y.vals.length := ⟨_, rfl⟩
      rw [← hnv] at hcl hyv
      obtain ⟨kq, hkq⟩ : ∃ kq, kq = y.kind := ⟨_, rfl⟩
      rw [← hkq] at hcl hgo
      have e0 := hcl.at 0 (by simp)
      have e1 := hcl.at 1 (by simp)
      simp only [List.getElem_cons_zero, List.getElem_cons_succ, Nat.add_zero] at e0 e1
      have hro := new_row wr #[.int .i64 kq, .slice av nv cv] 87
      have q0 := hro.at 0 (by simp)
      have q1 := hro.at 1 (by simp)
      simp only [List.getElem_cons_zero, List.getElem_cons_succ, Nat.zero_add] at q0 q1
      have hbA : Below wr.heap.size wr (wr.alloc (.cells #[.int .i64 kq, .slice av nv cv] 87 (0, 0))) := (Below.refl _ _).alloc (Nat.le_refl _) _
      have Q0 := Lib.hid q0
      have Q1 := Lib.hid q1
      have HNV := Lib.hid hnv
      have HIV := Lib.hid (hiv.below hbA)
      have HBA := Lib.hid hbA
      have HGO2 := Lib.hid hgo
      have HYV := Lib.hid hyv
      have HMAPA := Lib.hid (HMAP.out.below hbA)
      have HNN := HN.out
      clear hy hkq hnv hcl hiv hro hbA hgo hyv
      by_cases hA : kq < 0
      · have hres := HGO2.out
        rw [if_pos (Or.inl hA)] at hres
        injection hres with hr1 hr2
        have HR1 := Lib.hid hr1
        clear hr1 hr2
        go_wp2_with fail
        go_ret2
        exact ⟨Or.inl ⟨by rw [← HR1.out]; decide, by rw [← HR1.out]; rfl⟩, bt HB.out HBA.out⟩
      · by_cases hB : (kn : Int) ≤ kq
        · have hres := HGO2.out
          rw [if_pos (Or.inr (by rw [HNN]; exact hB))] at hres
          injection hres with hr1 hr2
          have HR1 := Lib.hid hr1
          clear hr1 hr2
          go_wp2_with fail
          go_ret2
          exact ⟨Or.inl ⟨by rw [← HR1.out]; decide, by rw [← HR1.out]; rfl⟩, bt HB.out HBA.out⟩
        · obtain ⟨q, rfl⟩ : ∃ q : Nat, kq = (q : Int) := ⟨kq.toNat, by omega⟩
          have hqn : q < kn := by omega
          have hres := HGO2.out
          rw [if_neg (fun h => by rcases h with h | h; exact hA h; rw [HNN] at h; exact hB h), Int.toNat_natCast] at hres
          obtain ⟨z, rfl, _, _⟩ := HZK.out (by rw [HNN]; omega)
          obtain ⟨kb, ko, rfl, af, cf, hck, hnm, hnc, hcm, hfl⟩ := kind_cells (HZK.out.below KindAt.abides (bt HB.out HBA.out)) q (by rw [HNN]; exact hqn)
          have hgq : ks.getD q default = ks[q]'(by rw [HNN]; exact hqn) := by rw [List.getD_eq_getElem?_getD, List.getElem?_eq_getElem (by rw [HNN]; exact hqn)]; rfl
          rw [hgq] at hres
          obtain ⟨K, hK⟩ : ∃ K, K = ks[q]'(by rw [HNN]; exact hqn) := ⟨_, rfl⟩
          rw [← hK] at hck hnm hnc hfl hres
          obtain ⟨nf, hnf⟩ : ∃ nf, nf = K.fields.length := ⟨_, rfl⟩
          rw [← hnf] at hck hnc
          have HCC := Lib.hid (fun w' hb => ref_FittedU K af nf cf y.vals av nv cv hnf.symm HNV.out.symm (by have := HYV.out; omega) hnm hnc hcm w' (SlAt.below FieldAt.abides hfl hb) (IntsAt.below HIV.out hb))
          obtain ⟨nm, hnm2⟩ : ∃ nm, nm = K.name := ⟨_, rfl⟩
          rw [← hnm2] at hck HCC
          have HCK := Lib.hid hck
          have HRES := Lib.hid hres
          obtain ⟨D, hown, hF⟩ := HMAPA.out
          have hhas := (hF q).1
          have HOWN := Lib.hid hown
          have HF := Lib.hid hF
          have hkey := keyN_of (i := q) (by omega)
          have HKEY := Lib.hid hkey
          clear hres hgq hK hnf hnm2 hck hnm hnc hcm hfl hF
          cases hs : (F q).isSome with
          | true =>
            rw [hs] at hhas
            have hr := HRES.out
            rw [if_pos hs] at hr
            injection hr with hr1 hr2
            have HR1 := Lib.hid hr1
            clear hr1 hr2
            go_wp2_with (at_lookup; refine wpList_lookup_own_ok _ rfl _ _ 70 rfl 3 23 keyInt Tryd.underlying70 RV (zeroRow _) (.held (.slice none 0 0)) [] rfl M i D rfl hown (.int .i64 (q : Int)) (keyN q) rfl hkey ?_; intro cw ps hat; rw [hhas]; clear hat)
            go_ret2
            exact ⟨Or.inl ⟨by rw [← HR1.out]; decide, by rw [← HR1.out]; rfl⟩, bt HB.out HBA.out⟩
          | false =>
            rw [hs] at hhas
            have hr := HRES.out
            rw [if_neg (by rw [hs]; simp)] at hr
            obtain ⟨E, hE⟩ : ∃ E, E = fitE K y.vals := ⟨_, rfl⟩
            rw [← hE] at hr
            have HR := Lib.hid hr
            have HE := Lib.hid hE
            clear hr hE hs
            go_wp2_with (at_lookup; refine wpList_lookup_own_ok _ rfl _ _ 70 rfl 3 23 keyInt Tryd.underlying70 RV (zeroRow _) (.held (.slice none 0 0)) [] rfl M i D rfl hown (.int .i64 (q : Int)) (keyN q) rfl hkey ?_; intro cw ps hat; rw [hhas]; clear hat)
            clear hhas
            refine wp_region_facts_t rfl 13 (by kernel_rfl) (F_fa M wr.heap.size kn kc kb ko q nf cf nv cv av af nm E K y.vals) (F_fa_mono M wr.heap.size kn kc kb ko q nf cf nv cv av af nm E K y.vals) ?_ ?_
            · refine ⟨?_, ?_, ?_, ?_, ?_, ?_, ?_, ?_, ?_, ?_, ?_, ?_, ?_, trivial⟩
              · intro vs w' F hb hd hF hl hT
                have e := (hF 0).trans (look_out _ 0 _ _ (by kernel_rfl))
                exact one_move _ rfl (by first | exact Or.inl rfl | exact Or.inr rfl) ⟨_, rfl, Below.refl _ _, e⟩
              · intro vs w' F hb hd hF hl hT
                have e := (hF 8).trans (look_out _ 8 _ _ (by kernel_rfl))
                exact one_field _ _ _ rfl rfl _ _ e (0) (fun w => by kernel_rfl) ⟨_, rfl, Below.refl _ _, rfl⟩
              · intro vs w' F hb hd hF hl hT
                have e := ((hF 40).trans (look_at _ 40 1 _ _ (by kernel_rfl) (by kernel_rfl) hl)).trans (dep_of (Fact := F_fa M wr.heap.size kn kc kb ko q nf cf nv cv av af nm E K y.vals) hd 1 (by kernel_rfl))
                exact one_load _ _ rfl rfl _ _ e (cell_abides Q0.out hb) (by kernel_rfl) ⟨_, rfl, Below.refl _ _, rfl⟩
              · intro vs w' F hb hd hF hl hT
                have ex := ((hF 39).trans (look_at _ 39 0 _ _ (by kernel_rfl) (by kernel_rfl) hl)).trans (dep_of (Fact := F_fa M wr.heap.size kn kc kb ko q nf cf nv cv av af nm E K y.vals) hd 0 (by kernel_rfl))
                have ey := ((hF 41).trans (look_at _ 41 2 _ _ (by kernel_rfl) (by kernel_rfl) hl)).trans (dep_of (Fact := F_fa M wr.heap.size kn kc kb ko q nf cf nv cv av af nm E K y.vals) hd 2 (by kernel_rfl))
                exact one_index 22 _ _ rfl rfl (.slice (some ⟨kb, ko, none⟩) kn kc) (.int .i64 (q : Int)) (.pointer (some ⟨kb, ko + q * 2, none⟩)) ex ey (fun w => rg_idx Tryd.underlying22 (show (Tryd.prog.info? 43).map (·.size) = some 2 by kernel_rfl) (kb) (ko) (kn) (kc) (q) (by omega) w) ⟨_, rfl, Below.refl _ _, rfl⟩
              · intro vs w' F hb hd hF hl hT
                have e := ((hF 42).trans (look_at _ 42 3 _ _ (by kernel_rfl) (by kernel_rfl) hl)).trans (dep_of (Fact := F_fa M wr.heap.size kn kc kb ko q nf cf nv cv av af nm E K y.vals) hd 3 (by kernel_rfl))
                exact rg_load 43 _ rfl rfl (kb) (ko + q * 2) [.string nm, .slice af nf cf] e (HCK.out.below hb) _ Tryd.underlying43 rfl (by kernel_rfl) ⟨_, rfl, Below.refl _ _, rfl⟩
              · intro vs w' F hb hd hF hl hT
                have e := (hF 8).trans (look_out _ 8 _ _ (by kernel_rfl))
                exact one_field _ _ _ rfl rfl _ _ e (1) (fun w => by kernel_rfl) ⟨_, rfl, Below.refl _ _, rfl⟩
              · intro vs w' F hb hd hF hl hT
                have e := ((hF 44).trans (look_at _ 44 5 _ _ (by kernel_rfl) (by kernel_rfl) hl)).trans (dep_of (Fact := F_fa M wr.heap.size kn kc kb ko q nf cf nv cv av af nm E K y.vals) hd 5 (by kernel_rfl))
                exact one_load _ _ rfl rfl _ _ e (cell_abides Q1.out hb) (by kernel_rfl) ⟨_, rfl, Below.refl _ _, rfl⟩
              · intro vs w' F hb hd hF hl hT
                have e1 := (((hF 43).trans (look_at _ 43 4 _ _ (by kernel_rfl) (by kernel_rfl) hl)).trans (dep_of (Fact := F_fa M wr.heap.size kn kc kb ko q nf cf nv cv av af nm E K y.vals) hd 4 (by kernel_rfl)))
                have e2 := (((hF 45).trans (look_at _ 45 6 _ _ (by kernel_rfl) (by kernel_rfl) hl)).trans (dep_of (Fact := F_fa M wr.heap.size kn kc kb ko q nf cf nv cv av af nm E K y.vals) hd 6 (by kernel_rfl)))
                refine one_call _ _ rfl rfl (enters_of Tryd.func55 (by kernel_rfl) rfl) #[.agg #[.string nm, .slice af nf cf], .slice av nv cv] (eval2 e1 e2) ?_
                refine (HCC.out w' hb).mono ?_
                intro e3 w2 hp
                have hb2 := hp.2.2
                obtain ⟨v, rfl, ht⟩ := FitPostU.tuple (B := M) hp (by have h1 := HMAP.out.lt; have h2 := hb.size; simp only [World.size_alloc] at h2; omega)
                exact ⟨_, rfl, _, rfl, hb2, ht⟩
              · intro vs w' F hb hd hF hl hT
                have e := ((hF 46).trans (look_at _ 46 7 _ _ (by kernel_rfl) (by kernel_rfl) hl))
                have d := (dep_of (Fact := F_fa M wr.heap.size kn kc kb ko q nf cf nv cv av af nm E K y.vals) hd 7 (by kernel_rfl))
                rw [← e] at d
                exact one_move _ rfl (by first | exact Or.inl rfl | exact Or.inr rfl) ⟨_, rfl, Below.refl _ _, d⟩
              · intro vs w' F hb hd hF hl hT
                have e := ((hF 38).trans (look_at _ 38 8 _ _ (by kernel_rfl) (by kernel_rfl) hl))
                obtain ⟨u, hu, hs⟩ := (dep_of (Fact := F_fa M wr.heap.size kn kc kb ko q nf cf nv cv av af nm E K y.vals) hd 8 (by kernel_rfl))
                exact rg_extract _ _ rfl rfl _ u (e.trans hu) (fun w => rfl) ⟨_, rfl, Below.refl _ _, hs⟩
              · intro vs w' F hb hd hF hl hT
                have e := ((hF 38).trans (look_at _ 38 8 _ _ (by kernel_rfl) (by kernel_rfl) hl))
                obtain ⟨u, hu, hs⟩ := (dep_of (Fact := F_fa M wr.heap.size kn kc kb ko q nf cf nv cv av af nm E K y.vals) hd 8 (by kernel_rfl))
                rw [← HE.out] at hu
                exact rg_extract _ _ rfl rfl _ (.int .i64 E) (e.trans hu) (fun w => rfl) ⟨_, rfl, Below.refl _ _, rfl⟩
              · intro vs w' F hb hd hF hl hT
                have e := ((hF 47).trans (look_at _ 47 9 _ _ (by kernel_rfl) (by kernel_rfl) hl))
                have d := (dep_of (Fact := F_fa M wr.heap.size kn kc kb ko q nf cf nv cv av af nm E K y.vals) hd 9 (by kernel_rfl))
                rw [← e] at d
                exact one_move _ rfl (by first | exact Or.inl rfl | exact Or.inr rfl) ⟨_, rfl, Below.refl _ _, d⟩
              · intro vs w' F hb hd hF hl hT
                have e := ((hF 48).trans (look_at _ 48 10 _ _ (by kernel_rfl) (by kernel_rfl) hl)).trans (dep_of (Fact := F_fa M wr.heap.size kn kc kb ko q nf cf nv cv av af nm E K y.vals) hd 10 (by kernel_rfl))
                exact one_move _ rfl (by first | exact Or.inl rfl | exact Or.inr rfl) ⟨_, rfl, Below.refl _ _, e⟩
            · intro vs8 W8 hl hb hI
              have i11 : FitSU M K y.vals (vs8.getD 11 undef) W8 := hI 11 (by omega)
              have i12 : vs8.getD 12 undef = .int .i64 E := hI 12 (by omega)
              obtain ⟨x0, x1, x2, x3, x4, x5, x6, x7, x8, x9, x10, x11, x12, hvs⟩ := list13 hl
              subst hvs
              replace i11 : FitSU M K y.vals x11 W8 := i11
              replace i12 : x12 = .int .i64 E := i12
              subst i12
              have HS := Lib.hid i11
              have HB8 := Lib.hid hb
              clear i11 hI hl hb
              simp only [fillAll, Act.put, List.setIfInBounds_toArray, List.set_cons_succ, List.set_cons_zero]
              show wpList _ _ _ [] _ _
              by_cases he : E = 0
              · subst he
                obtain ⟨fa, fc, rfl, hfi1, hfi2⟩ := HS.out.2 HE.out.symm
                have hfi : IntsU M W8 fa (fitL K.fields y.vals) := ⟨hfi1, hfi2⟩
                have HFI := Lib.hid hfi
                have hlen := fitL_len HE.out.symm
                have HLEN := Lib.hid hlen
                have c0 := cell_abides Q0.out HB8.out
                have hown8 : OwnV W8 M i D := HOWN.out.kept (row := none) (below_gn HB8.out _) (by simp)
                have t0 : ((0 : Int) != 0) = false := rfl
                clear hown hfi hfi1 hfi2 hlen q0 q1 e0 e1
                go_wp2_with (at_mapUpdate; go_must (refine wpList_mapUpdate_own _ rfl _ _ _ 70 rfl 3 23 keyInt Tryd.underlying70 RV M i D rfl hown8 (by have : maxLen = 9223372036854775807 := rfl; omega) (.int .i64 (q : Int)) _ (keyN q) rfl rfl hkey (.held _) [] rfl ?_); intro w9 hown9 hg9)
                have hF8 : ∀ j : Nat, Maps.has D (keyN j) = (F j).isSome ∧ ∀ L, F j = some L → ∃ a c, D.atKey (keyN j) (.held (.slice none 0 0)) = .held (.slice a L.length c) ∧ IntsU M W8 a L := fun j => ⟨(HF.out j).1, fun L hL => by
                  obtain ⟨a2, c2, p1, p2⟩ := (HF.out j).2 L hL
                  exact ⟨a2, c2, p1, p2.below HB8.out⟩⟩
                have hm9 : MapI w9 M (i + 1) (updF F q (fitL K.fields y.vals)) := MapI.put hown8 hF8 q (fitL K.fields y.vals) fa fc HFI.out (by rw [HLEN.out]; exact hown9) hg9
                have HM9 := Lib.hid hm9
                have HR9 := Lib.hid (show fitGo ks (l.drop (i + 1)) (updF F q (fitL K.fields y.vals)) = (RE, RM) by have h := HR.out; rw [if_neg (by simp)] at h; exact h)
                have HB9 := Lib.hid ((bt HB.out (bt HBA.out HB8.out)).grown hg9 (bt HB.out (bt HBA.out HB8.out)).size (fun r h => by injection h with h; rw [← h, HMM.out]; exact Nat.le_refl _))
                clear hown8 hown9 hg9 hF8 hm9 c0
                go_wp2
                go_roundg (n - (i + 1))
                case measure => rw [G2.out]; omega
                case rel => exact ⟨i + 1, _, hi, rfl, by go_num, HR9.out, HM9.out, HB9.out⟩
              · have t0 : (E != 0) = true := by rw [bne_iff_ne]; exact he
                have hr := HR.out
                rw [if_pos he] at hr
                injection hr with hr1 hr2
                have HR1 := Lib.hid hr1
                clear hr1 hr2 q0 q1 e0 e1 hown
                go_wp2
                go_ret2
                exact ⟨Or.inl ⟨by rw [← HR1.out]; exact he, by rw [← HR1.out]; rfl⟩, bt HB.out (bt HBA.out HB8.out)⟩
    · obtain rfl : i = n := by omega
      have hres := HGO.out
      rw [List.drop_of_length_le (by rw [HM.out]; exact Nat.le_refl _), fitGo] at hres
      injection hres with hr1 hr2
      have HR1 := Lib.hid hr1
      have HR2 := Lib.hid hr2
      clear hr1 hr2
      go_wp2_with fail
      go_ret2
      exact ⟨Or.inr ⟨HR1.out.symm, M, _, rfl, by rw [HMM.out]; exact Nat.le_refl _, by rw [← HR2.out]; exact HMAP.out⟩, HB.out⟩
end Go.Proofs.YtijeninfmjhbnaaDoor
end
