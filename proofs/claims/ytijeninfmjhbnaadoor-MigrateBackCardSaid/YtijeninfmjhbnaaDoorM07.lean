/- Lemmas for the law MigrateBack: KindFitd, KindEq, KindEq2, RdS, RdW. No conditions. -/
import Derived.Test.YtijeninfmjhbnaaDoorM06
import Derived.Test.YtijeninfmjhbnaaDoorM03
import Derived.Test.YtijeninfmjhbnaaDoorM01
import Derived.Lib.SmallJoins
import Derived.SizedLaws
import Derived.Test.YtijeninfmjhbnaaDoorM02
/- ref Fitted. -/
section
namespace Go.Proofs.YtijeninfmjhbnaaDoor
open Go.ChangeShapes Go.WideShapes Go.ChangeAt Go.RowKit Go.Nm Go.Mem
set_option linter.unusedVariables false
section
variable {P : Program} {ops : Array Oper} {o : Oper} {F : Act} {w : World} {Q : Exit → Act → World → Prop}
theorem add_one2 (p : Addr) : p.add 1 = ⟨p.block, p.off + 1, none⟩ := by simp [Addr.add]
theorem add_two2 (p : Addr) : p.add 2 = ⟨p.block, p.off + 2, none⟩ := by simp [Addr.add]
theorem one_load3 (ty : TypeId) (x : Operand) (hgd : o.guard = none) (ho : o.op = .load ty x) (p : Addr) (v0 v1 v2 : Value) (hx : F.eval x = .pointer (some p)) (c0 : w.cell? p = some v0) (c1 : w.cell? ⟨p.block, p.off + 1, none⟩ = some v1) (c2 : w.cell? ⟨p.block, p.off + 2, none⟩ = some v2)
    (d : TypeDesc) (hu : P.underlying ty = some d) (hd : (match d with | .struct _ | .array _ _ => true | _ => false) = true) (hs : (P.info? ty).map (·.size) = some 3) (h : Q .normal (F.put o.dst (.agg #[v0, v1, v2])) w) : wpList P ops Q [o] F w := by
  have hl : (loadCells p 3).run P w = .ok #[v0, v1, v2] w :=
    run_loadCells_list (P := P) w p [v0, v1, v2] (fun j v hv => by
      match j with
      | 0 => rw [show p.add 0 = p by simp [Addr.add]]; simpa using hv ▸ c0
      | 1 => rw [add_one2]; simpa using hv ▸ c1
      | 2 => rw [add_two2]; simpa using hv ▸ c2
      | j + 3 => simp at hv)
  cases hq : P.info? ty with
  | none => simp [hq] at hs
  | some i =>
    have hsz : i.size = 3 := by simpa [hq] using hs
    have hagg : (isAgg ty).run P w = .ok true w := by
      unfold isAgg
      rw [Sem.run_bind, run_underlying hu w]
      cases d <;> simp_all
    refine wpList_plain hgd fun K hK => ?_
    unfold Oper.wp execOp
    simp [ho, hx, Instr.loadAt, Instr.sureAddr, loadVar, Sem.run_bind, hagg, sizeOf, typeInfo, hq, hsz, hl, Oper.upon]
    exact hK _ _ h
theorem one_slice1 (t e : TypeId) (x0 : Operand) (hgd : o.guard = none) (ho : o.op = .buildSlice t 1 #[(0, x0)]) (a : Int) (h0 : F.eval x0 = .int .i64 a)
    (hu : P.underlying t = some (.slice e)) (hie : (P.info? e).map (fun i => (i.zero, i.size)) = some (some (.int .i64 0), 1))
    (h : Q .normal (F.put o.dst (.slice (some ⟨w.heap.size, 0, none⟩) 1 1)) (w.alloc (.cells #[.int .i64 a] e))) : wpList P ops Q [o] F w := by
  obtain ⟨ie, hi, hzz⟩ := Option.map_eq_some_iff.1 hie
  simp only [Prod.mk.injEq] at hzz
  refine wpList_plain hgd fun K hK => ?_
  refine wp_buildSlice t e 1 _ ho #[.int .i64 a] ie (.int .i64 0) hu hi hzz.1 (by rw [hzz.2]; decide) (by rw [hzz.2]; decide) ?_ (hK _ _ h)
  rw [hzz.2]
  simp only [List.map_toArray, List.map_cons, List.map_nil, h0]
  have hr : Array.range 1 = #[0] := by decide
  simp [Instr.fill, Value.cells, hr]
end
theorem ints_one (w : World) (a : Int) (e : TypeId) : IntsAt .i64 (w.alloc (.cells #[.int .i64 a] e)) (some ⟨w.heap.size, 0, none⟩) [a] := fun _ =>
  ⟨_, rfl, by simp, fun i hi => by
    have : i = 0 := by simpa using hi
    subst this
    simp [Addr.add]⟩
theorem list14 {α : Type} {vs : List α} (h : vs.length = 14) : ∃ a b c d e f g i j k l m n o, vs = [a, b, c, d, e, f, g, i, j, k, l, m, n, o] := by
  match vs, h with
  | [a, b, c, d, e, f, g, i, j, k, l, m, n, o], _ => exact ⟨a, b, c, d, e, f, g, i, j, k, l, m, n, o, rfl⟩
def F_fitd (V7 : Value) (B0 i n m cap cv : Nat) (u : Int) (x z : Addr) (y : FieldV) (j : Nat) (v : Value) (w : World) : Prop :=
  match j with
  | 0 => v = V7
  | 1 => v = .pointer (some ⟨B0, 1, none⟩)
  | 2 => v = .slice (some x) n cap
  | 3 => v = .int .i64 i
  | 4 => v = .pointer (some (x.add (i * 3)))
  | 5 => v = .agg #[.string y.name, .int .i64 y.bits, .int .i64 y.low]
  | 6 => v = .slice (some z) m cv
  | 7 => v = .int .i64 i
  | 8 => v = .pointer (some (z.add i))
  | 9 => v = .int .i64 u
  | 10 => v = .int .i64 (nearV y u)
  | 11 => ∃ X, v = .slice (some ⟨X, 0, none⟩) 1 1 ∧ IntsAt .i64 w (some ⟨X, 0, none⟩) [nearV y u]
  | _ => True
theorem F_fitd_mono (V7 : Value) (B0 i n m cap cv : Nat) (u : Int) (x z : Addr) (y : FieldV) : Facts (F_fitd V7 B0 i n m cap cv u x z y) := ⟨by
  intro j v w w' h hb
  unfold F_fitd at h ⊢
  split at h
  all_goals first
    | exact h
    | (obtain ⟨X, e, hi⟩ := h; exact ⟨X, e, hi.below hb⟩)
    | trivial⟩

set_option maxHeartbeats 8000000 in
theorem ref_Fitted (k : KindV) (a : Option Addr) (n cap : Nat) (vals : List Int) (av : Option Addr) (m cv : Nat) (hn : k.fields.length = n) (hm : vals.length = m) (hm9 : m ≤ 9223372036854775807) (hnm : k.name.size ≤ 9223372036854775807) (hnc : n ≤ cap) (hcm : cap ≤ 9223372036854775807) (W : World) (hz : SlAt 3 FieldAt W a k.fields) (hv : IntsAt .i64 W av vals) :
    Calls Tryd.prog 55 #[.agg #[.string k.name, .slice a n cap], .slice av m cv] W (FitPost k vals W) := by
  have hb0 := (Below.refl W.heap.size W).alloc (Nat.le_refl _) (.cells #[.string k.name, .slice a n cap] 43)
  have hc := ref_KindError k a n cap hn hnm (by omega) (W.alloc (.cells #[.string k.name, .slice a n cap] 43)) (hz.below FieldAt.abides hb0)
  have x0 := heap_alloc_new W (.cells #[.string k.name, .slice a n cap] 43)
  have HB0 := Lib.hid hb0
  have HX0 := Lib.hid x0
  have HN := Lib.hid hn
  have HM := Lib.hid hm
  have HZ := Lib.hid hz
  have HV := Lib.hid hv
  obtain ⟨nm, l⟩ := k
  simp only at hc HX0 HB0 hnm HN HZ ⊢
  obtain ⟨e1, he1⟩ : ∃ e1, e1 = kindE ⟨nm, l⟩ := ⟨_, rfl⟩
  rw [← he1] at hc
  have HE := Lib.hid he1
  have HC := Lib.hid hc
  clear hb0 hc x0 hn hm hz hv he1
  by_cases he : e1 = 0
  · subst he
    obtain ⟨hn8, hok⟩ := kind_ok HE.out.symm
    simp only at hn8 hok
    rw [HN.out] at hn8
    have HOK := Lib.hid hok
    clear hok
    go_enter Tryd.func55, Tryd.ntmps55
    go_wp2_with fail
    refine HC.out.mono ?_
    rintro e w1 ⟨rfl, hb1⟩
    have hx1 := heap_below HX0.out hb1
    have c1 : w1.cell? ⟨W.heap.size, 1, none⟩ = some (.slice a n cap) := by rw [cell_of_row _ _ 1 _ _ _ hx1]; rfl
    have hbw := HB0.out.trans (hb1.mono (by simp))
    have HB1 := Lib.hid hbw
    have HX1 := Lib.hid hx1
    have hs1 := hbw.size
    clear hb1 hx1 hbw HC HX0 HB0
    by_cases hmn : m = n
    · subst hmn
      have HFE := Lib.hid (show fitE ⟨nm, l⟩ vals = 0 by unfold fitE; rw [if_neg (by rw [← HE.out]; simp), if_neg (by simp only; rw [HM.out, HN.out]; simp)])
      have t0 : ((m : Int) != (m : Int)) = false := by simp
      go_wp2_with fail
      clear c1
      go_loopg [7, 8, 22] m (fun gk v7 v8 vi wx => ∃ (i : Nat) (out : List Int), i ≤ m ∧ gk = m - i ∧ vi = .int .i64 i ∧ out.length = i ∧ (∀ j (h1 : j < l.length) (h2 : j < vals.length), j < i → out.getD j 0 = nearV l[j] vals[j]) ∧ wx.ownsRow (W.heap.size + 1) 3 1 v7 i (vints .i64 out) ∧ wx.heap[W.heap.size]? = some (.cells #[.string nm, .slice a m cap] 43 (0, 0)) ∧ Below W.heap.size W wx)
      case atStart => exact ⟨0, [], Nat.zero_le _, rfl, rfl, rfl, fun j _ _ h => absurd h (by omega), World.ownsRow_nil _ _ _ _, HX1.out, HB1.out⟩
      case round =>
        obtain ⟨i, out, hi, g2, rfl, hol, hat, hown, hx0, hb⟩ := hrel
        have G2 := Lib.hid g2
        have HOL := Lib.hid hol
        have HAT := Lib.hid hat
        have HO := Lib.hid hown
        have HX := Lib.hid hx0
        have HB := Lib.hid hb
        have hbs := hb.size
        obtain ⟨ao, ca, rfl⟩ := own_slice hown
        clear g2 hol hat hown hx0 hb HX1 HB1
        by_cases hlt : i < m
        · obtain ⟨x, rfl, hx, hix⟩ := (HZ.out.below FieldAt.abides HB.out) (by rw [HN.out]; omega)
          obtain ⟨z, rfl, hzl, hiz⟩ := (HV.out.below HB.out) (by rw [HM.out]; omega)
          obtain ⟨k0, k1, k2, k3⟩ := hix i (by rw [HN.out]; exact hlt)
          have kv := hiz i (by rw [HM.out]; exact hlt)
          obtain ⟨y, hy⟩ : ∃ y, y = l[i]'(by rw [HN.out]; exact hlt) := ⟨_, rfl⟩
          rw [← hy] at k0 k1 k2 k3
          obtain ⟨u, hu⟩ : ∃ u, u = vals.getD i 0 := ⟨_, rfl⟩
          have kv : wr.cell? (z.add i) = some (.int .i64 u) := by rw [hu]; exact kv
          have hoky : okF y = true := by rw [hy]; exact HOK.out i (by rw [HN.out]; exact hlt)
          have HNR := Lib.hid (nearest_at y u hoky k3)
          have HY := Lib.hid hy
          have HU := Lib.hid hu
          have c1 : wr.cell? ⟨W.heap.size, 1, none⟩ = some (.slice (some x) m cap) := by rw [cell_of_row _ _ 1 _ _ _ HX.out]; rfl
          clear hix hiz hy hu hoky k3
          go_wp2_with fail
          refine wp_region_facts_t rfl 12 (by kernel_rfl) (F_fitd (.slice ao i ca) W.heap.size i m m cap cv u x z y) (F_fitd_mono (.slice ao i ca) W.heap.size i m m cap cv u x z y) ?_ ?_
          · refine ⟨?_, ?_, ?_, ?_, ?_, ?_, ?_, ?_, ?_, ?_, ?_, ?_, trivial⟩
            · intro vs w' F hb hd hF hl hT
              have e := ((hF 7).trans (look_at _ 7 13 _ _ (by kernel_rfl) (by kernel_rfl) hl)).trans ((hT 13 (by decide)).trans (show _ = Value.slice ao i ca from by kernel_rfl))
              exact one_move _ rfl (by first | exact Or.inl rfl | exact Or.inr rfl) ⟨_, rfl, Below.refl _ _, e⟩
            · intro vs w' F hb hd hF hl hT
              have e := (hF 2).trans (look_out _ 2 _ _ (by kernel_rfl))
              exact one_field _ _ _ rfl rfl _ _ e _ (fun w => by kernel_rfl) ⟨_, rfl, Below.refl _ _, rfl⟩
            · intro vs w' F hb hd hF hl hT
              have e := ((hF 26).trans (look_at _ 26 1 _ _ (by kernel_rfl) (by kernel_rfl) hl)).trans (dep_of (Fact := F_fitd (.slice ao i ca) W.heap.size i m m cap cv u x z y) hd 1 (by kernel_rfl))
              exact one_load _ _ rfl rfl _ _ e (cell_abides c1 hb) (by kernel_rfl) ⟨_, rfl, Below.refl _ _, rfl⟩
            · intro vs w' F hb hd hF hl hT
              have e := (hF 8).trans (look_out _ 8 _ _ (by kernel_rfl))
              exact one_move _ rfl (by first | exact Or.inl rfl | exact Or.inr rfl) ⟨_, rfl, Below.refl _ _, e⟩
            · intro vs w' F hb hd hF hl hT
              have ex := (((hF 27).trans (look_at _ 27 2 _ _ (by kernel_rfl) (by kernel_rfl) hl)).trans (dep_of (Fact := F_fitd (.slice ao i ca) W.heap.size i m m cap cv u x z y) hd 2 (by kernel_rfl)))
              have ey := (((hF 28).trans (look_at _ 28 3 _ _ (by kernel_rfl) (by kernel_rfl) hl)).trans (dep_of (Fact := F_fitd (.slice ao i ca) W.heap.size i m m cap cv u x z y) hd 3 (by kernel_rfl)))
              exact one_index 41 _ _ rfl rfl (.slice (some x) m cap) (.int .i64 i) (.pointer (some (x.add (i * 3)))) ex ey (fun w => by clear hb hd hF hl ex ey; go_simp) ⟨_, rfl, Below.refl _ _, rfl⟩
            · intro vs w' F hb hd hF hl hT
              have e := (((hF 29).trans (look_at _ 29 4 _ _ (by kernel_rfl) (by kernel_rfl) hl)).trans (dep_of (Fact := F_fitd (.slice ao i ca) W.heap.size i m m cap cv u x z y) hd 4 (by kernel_rfl)))
              exact one_load3 40 _ rfl rfl _ _ _ _ e (cell_abides k0 hb) (cell_abides k1 hb) (cell_abides k2 hb) _ Tryd.underlying40 rfl (by kernel_rfl) ⟨_, rfl, Below.refl _ _, rfl⟩
            · intro vs w' F hb hd hF hl hT
              have e := (hF 1).trans (look_out _ 1 _ _ (by kernel_rfl))
              exact one_move _ rfl (by first | exact Or.inl rfl | exact Or.inr rfl) ⟨_, rfl, Below.refl _ _, e⟩
            · intro vs w' F hb hd hF hl hT
              have e := (hF 8).trans (look_out _ 8 _ _ (by kernel_rfl))
              exact one_move _ rfl (by first | exact Or.inl rfl | exact Or.inr rfl) ⟨_, rfl, Below.refl _ _, e⟩
            · intro vs w' F hb hd hF hl hT
              have ex := (((hF 31).trans (look_at _ 31 6 _ _ (by kernel_rfl) (by kernel_rfl) hl)).trans (dep_of (Fact := F_fitd (.slice ao i ca) W.heap.size i m m cap cv u x z y) hd 6 (by kernel_rfl)))
              have ey := (((hF 32).trans (look_at _ 32 7 _ _ (by kernel_rfl) (by kernel_rfl) hl)).trans (dep_of (Fact := F_fitd (.slice ao i ca) W.heap.size i m m cap cv u x z y) hd 7 (by kernel_rfl)))
              exact one_index 23 _ _ rfl rfl (.slice (some z) m cv) (.int .i64 i) (.pointer (some (z.add i))) ex ey (fun w => by clear hb hd hF hl ex ey; go_simp) ⟨_, rfl, Below.refl _ _, rfl⟩
            · intro vs w' F hb hd hF hl hT
              have e := (((hF 33).trans (look_at _ 33 8 _ _ (by kernel_rfl) (by kernel_rfl) hl)).trans (dep_of (Fact := F_fitd (.slice ao i ca) W.heap.size i m m cap cv u x z y) hd 8 (by kernel_rfl)))
              exact one_load _ _ rfl rfl _ _ e (cell_abides kv hb) (by kernel_rfl) ⟨_, rfl, Below.refl _ _, rfl⟩
            · intro vs w' F hb hd hF hl hT
              have e1 := (((hF 30).trans (look_at _ 30 5 _ _ (by kernel_rfl) (by kernel_rfl) hl)).trans (dep_of (Fact := F_fitd (.slice ao i ca) W.heap.size i m m cap cv u x z y) hd 5 (by kernel_rfl)))
              have e2 := (((hF 34).trans (look_at _ 34 9 _ _ (by kernel_rfl) (by kernel_rfl) hl)).trans (dep_of (Fact := F_fitd (.slice ao i ca) W.heap.size i m m cap cv u x z y) hd 9 (by kernel_rfl)))
              refine one_call _ _ rfl rfl (enters_of Tryd.func35 (by kernel_rfl) rfl) #[.agg #[.string y.name, .int .i64 y.bits, .int .i64 y.low], .int .i64 u] (eval2 e1 e2) ?_
              refine (HNR.out w').mono ?_
              rintro e3 w2 ⟨rfl, hb2⟩
              exact ⟨_, rfl, _, rfl, hb2, rfl⟩
            · intro vs w' F hb hd hF hl hT
              have e := (((hF 35).trans (look_at _ 35 10 _ _ (by kernel_rfl) (by kernel_rfl) hl)).trans (dep_of (Fact := F_fitd (.slice ao i ca) W.heap.size i m m cap cv u x z y) hd 10 (by kernel_rfl)))
              refine one_slice1 23 3 _ rfl rfl _ e Tryd.underlying23 (by kernel_rfl) ?_
              exact ⟨_, rfl, (Below.refl _ _).alloc (Nat.le_refl _) _, _, rfl, ints_one w' _ _⟩
          · intro vs W1 hl hb hI
            have i0 : vs.getD 0 undef = .slice ao i ca := hI 0 (by omega)
            obtain ⟨X, i11, hxi⟩ := hI 11 (by omega)
            have hown1 := own_below HO.out hb
            have hx1 := heap_below HX.out hb
            have hBW := HB.out.trans (hb.mono hbs)
            have hsz := hBW.size
            have hsz1 : W.heap.size + 1 ≤ W1.heap.size := lt_of_heap hx1
            obtain ⟨v0, v1, v2, v3, v4, v5, v6, v7, v8, v9, v10, v11, v12, v13, rfl⟩ := list14 hl
            replace i0 : v0 = .slice ao i ca := i0
            replace i11 : v11 = .slice (some ⟨X, 0, none⟩) 1 1 := i11
            subst i0 i11
            have HO1 := Lib.hid hown1
            have HXI := Lib.hid hxi
            have HX2 := Lib.hid hx1
            have HBW := Lib.hid hBW
            clear hI hl hb hown1 hx1 hBW hxi HNR HO HX k0 k1 k2 kv
            simp only [fillAll, Act.put, List.setIfInBounds_toArray, List.set_cons_succ, List.set_cons_zero]
            refine wpList_append_ints rfl _ _ 23 rfl (W.heap.size + 1) 3 .i64 8 Tryd.underlying23 (by kernel_rfl) (.slice ao i ca) i out rfl HO1.out (some ⟨X, 0, none⟩) 1 1 [nearV y u] rfl rfl HXI.out (by unfold maxLen; omega) (by omega) hsz1 ?_
            intro v' w' hown' hg hor
            have HX3 := Lib.hid (show w'.heap[W.heap.size]? = some (.cells #[.string nm, .slice (some x) m cap] 43 (0, 0)) from by
              rw [hg.block _ hsz1 (fun e => by have := (own_lt HO1.out _ e.symm).1; omega)]; exact HX2.out)
            have HB3 := Lib.hid (HBW.out.grown hg hsz (fun g hg2 => Nat.le_of_succ_le (own_lt HO1.out g hg2).1))
            have HO3 := Lib.hid hown'
            have HATN : Hid (∀ j (h1 : j < l.length) (h2 : j < vals.length), j < i + 1 → (out ++ [nearV y u]).getD j 0 = nearV l[j] vals[j]) := Lib.hid (fun j h1 h2 hj => by
              by_cases hji : j < i
              · rw [List.getD_eq_getElem?_getD, List.getElem?_append_left (by rw [HOL.out]; exact hji), ← List.getD_eq_getElem?_getD]
                exact HAT.out j h1 h2 hji
              · obtain rfl : j = i := by omega
                rw [List.getD_eq_getElem?_getD, List.getElem?_append_right (by rw [HOL.out]; exact Nat.le_refl _), HOL.out, Nat.sub_self]
                have e2 : vals[j] = u := by rw [HU.out, List.getD_eq_getElem?_getD, List.getElem?_eq_getElem h2]; rfl
                rw [e2, ← HY.out]; rfl)
            clear hown' hg hor HO1 HXI HX2 HBW
            go_wp2_with fail
            go_roundg (m - (i + 1))
            case measure => rw [G2.out]; omega
            case rel => exact ⟨i + 1, out ++ [nearV y u], hlt, rfl, by go_num, by rw [List.length_append, HOL.out]; rfl, HATN.out, HO3.out, HX3.out, HB3.out⟩
        · have hie : i = m := by omega
          have hfl : fitL l vals = out := by
            unfold fitL
            refine List.ext_getElem (by rw [List.length_zipWith, HN.out, HM.out, HOL.out]; omega) (fun j h1 h2 => ?_)
            rw [List.length_zipWith] at h1
            rw [List.getElem_zipWith]
            have := HAT.out j (by omega) (by omega) (by rw [HOL.out] at h2; omega)
            rw [List.getD_eq_getElem?_getD, List.getElem?_eq_getElem h2] at this
            exact this.symm
          have HFL := Lib.hid hfl
          have HIN := Lib.hid (IntsAt.of_own HO.out HOL.out.symm)
          clear hfl
          subst hie
          go_wp2_with fail
          go_ret2
          exact ⟨fun h => absurd HFE.out h, fun _ => ⟨_, ca, by rw [HM.out]; rfl, by simp only; rw [HFL.out]; exact HIN.out⟩, HB.out⟩
    · have HFE := Lib.hid (show fitE ⟨nm, l⟩ vals = 1 by unfold fitE; rw [if_neg (by rw [← HE.out]; simp), if_pos (by simp only; rw [HM.out, HN.out]; exact hmn)])
      have t0 : ((m : Int) != (n : Int)) = true := by rw [bne_iff_ne]; omega
      clear hmn
      go_wp2_with fail
      go_ret2
      exact ⟨fun _ => by rw [HFE.out]; rfl, fun h => absurd (HFE.out.symm.trans h) (by decide), HB1.out⟩
  · have t1 : (e1 != 0) = true := by rw [bne_iff_ne]; exact he
    have HFE := Lib.hid (show fitE ⟨nm, l⟩ vals = e1 by unfold fitE; rw [if_pos (by rw [← HE.out]; exact he), ← HE.out])
    have HNE := Lib.hid he
    clear he
    go_enter Tryd.func55, Tryd.ntmps55
    go_wp2_with fail
    refine HC.out.mono ?_
    rintro e w1 ⟨rfl, hb1⟩
    have HB1 := Lib.hid (HB0.out.trans (hb1.mono (by simp)))
    clear hb1
    go_wp2_with fail
    go_ret2
    exact ⟨fun _ => by rw [HFE.out]; rfl, fun h => absurd (HFE.out.symm.trans h) HNE.out, HB1.out⟩
end Go.Proofs.YtijeninfmjhbnaaDoor
end
/- slices.Equal at fields, and a list of fields held against itself; ref SameKind, slices.EqualFunc at kinds. -/
section
namespace Go.Proofs.YtijeninfmjhbnaaDoor
open Go.ChangeShapes Go.WideShapes Go.ChangeAt Go.RowKit Go.Nm Go.Mem
set_option linter.unusedVariables false
def F_eqf (x z : Addr) (n ca cb i : Nat) (y : FieldV) (j : Nat) (v : Value) (w : World) : Prop :=
  match j with
  | 0 => v = .slice (some x) n ca
  | 1 => v = .int .i64 i
  | 2 => v = .pointer (some (x.add (i * 3)))
  | 3 => v = .agg #[.string y.name, .int .i64 y.bits, .int .i64 y.low]
  | 4 => v = .slice (some z) n cb
  | 5 => v = .int .i64 i
  | 6 => v = .pointer (some (z.add (i * 3)))
  | 7 => v = .agg #[.string y.name, .int .i64 y.bits, .int .i64 y.low]
  | 8 => v = .bool false
  | _ => True
theorem F_eqf_mono (x z : Addr) (n ca cb i : Nat) (y : FieldV) : Facts (F_eqf x z n ca cb i y) := ⟨by
  intro j v w w' h hb
  unfold F_eqf at h ⊢
  split at h
  all_goals first | exact h | trivial⟩

set_option maxHeartbeats 4000000 in
theorem eq_flds (l : List FieldV) (a b : Option Addr) (n ca cb : Nat) (hn : l.length = n) (h1 : n ≤ 9223372036854775807) (W : World) (hz : SlAt 3 FieldAt W a l) (hy : SlAt 3 FieldAt W b l) :
    Calls Tryd.prog 64 #[.slice a n ca, .slice b n cb] W fun e w' => e = .returned (.bool true) ∧ Below W.heap.size W w' := by
  have HN := Lib.hid hn
  have HZ := Lib.hid hz
  have HY := Lib.hid hy
  clear hn hz hy
  have t0 : ((n : Int) != (n : Int)) = false := by simp
  go_enter Tryd.func64, Tryd.ntmps64
  go_wp2_with fail
  go_loopg [5, 13] n (fun gk v5 vi wx => ∃ i : Nat, i ≤ n ∧ gk = n - i ∧ vi = .int .i64 i ∧ Below W.heap.size W wx)
  case atStart => exact ⟨0, Nat.zero_le _, rfl, rfl, Below.refl _ _⟩
  case round =>
    obtain ⟨i, hi, g2, rfl, hb⟩ := hrel
    have G2 := Lib.hid g2
    have HB := Lib.hid hb
    have hbs := hb.size
    clear g2 hb
    by_cases hlt : i < n
    · obtain ⟨x, rfl, hx, hix⟩ := (HZ.out.below FieldAt.abides HB.out) (by rw [HN.out]; omega)
      obtain ⟨z, rfl, hx2, hiz⟩ := (HY.out.below FieldAt.abides HB.out) (by rw [HN.out]; omega)
      obtain ⟨k0, k1, k2, k3⟩ := hix i (by rw [HN.out]; exact hlt)
      obtain ⟨j0, j1, j2, j3⟩ := hiz i (by rw [HN.out]; exact hlt)
      obtain ⟨y, hy⟩ : ∃ y, y = l[i]'(by rw [HN.out]; exact hlt) := ⟨_, rfl⟩
      rw [← hy] at k0 k1 k2 j0 j1 j2
      clear hix hiz hy k3 j3
      go_wp2_with fail
      refine wp_region_facts rfl 9 (by kernel_rfl) (F_eqf x z n ca cb i y) (F_eqf_mono x z n ca cb i y) ?_ ?_
      · refine ⟨?_, ?_, ?_, ?_, ?_, ?_, ?_, ?_, ?_, trivial⟩
        · intro vs w' F hb hd hF hl
          have e := (hF 0).trans (look_out _ 0 _ _ (by kernel_rfl))
          exact one_move _ rfl (by first | exact Or.inl rfl | exact Or.inr rfl) ⟨_, rfl, Below.refl _ _, e⟩
        · intro vs w' F hb hd hF hl
          have e := (hF 5).trans (look_out _ 5 _ _ (by kernel_rfl))
          exact one_move _ rfl (by first | exact Or.inl rfl | exact Or.inr rfl) ⟨_, rfl, Below.refl _ _, e⟩
        · intro vs w' F hb hd hF hl
          have ex := (((hF 16).trans (look_at _ 16 0 _ _ (by kernel_rfl) (by kernel_rfl) hl)).trans (dep_of (Fact := F_eqf x z n ca cb i y) hd 0 (by kernel_rfl)))
          have ey := (((hF 17).trans (look_at _ 17 1 _ _ (by kernel_rfl) (by kernel_rfl) hl)).trans (dep_of (Fact := F_eqf x z n ca cb i y) hd 1 (by kernel_rfl)))
          exact one_index 41 _ _ rfl rfl (.slice (some x) n ca) (.int .i64 i) (.pointer (some (x.add (i * 3)))) ex ey (fun w => by clear hb hd hF hl ex ey; go_simp) ⟨_, rfl, Below.refl _ _, rfl⟩
        · intro vs w' F hb hd hF hl
          have e := (((hF 18).trans (look_at _ 18 2 _ _ (by kernel_rfl) (by kernel_rfl) hl)).trans (dep_of (Fact := F_eqf x z n ca cb i y) hd 2 (by kernel_rfl)))
          exact one_load3 40 _ rfl rfl _ _ _ _ e (cell_abides k0 hb) (cell_abides k1 hb) (cell_abides k2 hb) _ Tryd.underlying40 rfl (by kernel_rfl) ⟨_, rfl, Below.refl _ _, rfl⟩
        · intro vs w' F hb hd hF hl
          have e := (hF 1).trans (look_out _ 1 _ _ (by kernel_rfl))
          exact one_move _ rfl (by first | exact Or.inl rfl | exact Or.inr rfl) ⟨_, rfl, Below.refl _ _, e⟩
        · intro vs w' F hb hd hF hl
          have e := (hF 5).trans (look_out _ 5 _ _ (by kernel_rfl))
          exact one_move _ rfl (by first | exact Or.inl rfl | exact Or.inr rfl) ⟨_, rfl, Below.refl _ _, e⟩
        · intro vs w' F hb hd hF hl
          have ex := (((hF 20).trans (look_at _ 20 4 _ _ (by kernel_rfl) (by kernel_rfl) hl)).trans (dep_of (Fact := F_eqf x z n ca cb i y) hd 4 (by kernel_rfl)))
          have ey := (((hF 21).trans (look_at _ 21 5 _ _ (by kernel_rfl) (by kernel_rfl) hl)).trans (dep_of (Fact := F_eqf x z n ca cb i y) hd 5 (by kernel_rfl)))
          exact one_index 41 _ _ rfl rfl (.slice (some z) n cb) (.int .i64 i) (.pointer (some (z.add (i * 3)))) ex ey (fun w => by clear hb hd hF hl ex ey; go_simp) ⟨_, rfl, Below.refl _ _, rfl⟩
        · intro vs w' F hb hd hF hl
          have e := (((hF 22).trans (look_at _ 22 6 _ _ (by kernel_rfl) (by kernel_rfl) hl)).trans (dep_of (Fact := F_eqf x z n ca cb i y) hd 6 (by kernel_rfl)))
          exact one_load3 40 _ rfl rfl _ _ _ _ e (cell_abides j0 hb) (cell_abides j1 hb) (cell_abides j2 hb) _ Tryd.underlying40 rfl (by kernel_rfl) ⟨_, rfl, Below.refl _ _, rfl⟩
        · intro vs w' F hb hd hF hl
          have ex := (((hF 19).trans (look_at _ 19 3 _ _ (by kernel_rfl) (by kernel_rfl) hl)).trans (dep_of (Fact := F_eqf x z n ca cb i y) hd 3 (by kernel_rfl)))
          have ey := (((hF 23).trans (look_at _ 23 7 _ _ (by kernel_rfl) (by kernel_rfl) hl)).trans (dep_of (Fact := F_eqf x z n ca cb i y) hd 7 (by kernel_rfl)))
          exact one_binop _ 40 _ _ _ rfl rfl _ _ ex ey (.bool false) (fld_guard _ _ _ _ _ w') (fld_neq _ _ _ w') ⟨_, rfl, Below.refl _ _, rfl⟩
      · intro vs W1 hl hb hI
        have i8 : vs.getD 8 undef = .bool false := hI 8 (by omega)
        obtain ⟨v0, v1, v2, v3, v4, v5, v6, v7, v8, rfl⟩ := list9 hl
        replace i8 : v8 = .bool false := i8
        subst i8
        have HBN := Lib.hid (HB.out.trans (hb.mono hbs))
        clear hI hl hb k0 k1 k2 j0 j1 j2
        simp only [fillAll, Act.put, List.setIfInBounds_toArray, List.set_cons_succ, List.set_cons_zero]
        show wpList _ _ _ [] _ _
        go_wp2
        go_roundg (n - (i + 1))
        case measure => rw [G2.out]; omega
        case rel => exact ⟨i + 1, hlt, rfl, by go_num, HBN.out⟩
    · go_wp2_with fail
      go_ret
      exact ⟨rfl, HB.out⟩
end Go.Proofs.YtijeninfmjhbnaaDoor
end
/- ref SameKind: a kind held against itself; slices.EqualFunc at kinds: a list against itself, against a list of another length. -/
section
namespace Go.Proofs.YtijeninfmjhbnaaDoor
open Go.ChangeShapes Go.WideShapes Go.ChangeAt Go.RowKit Go.Nm Go.Mem
set_option linter.unusedVariables false
set_option maxHeartbeats 4000000 in
theorem same_kind (y : KindV) (a b : Option Addr) (n ca cb : Nat) (hn : y.fields.length = n) (h1 : n ≤ 9223372036854775807) (W : World) (hz : SlAt 3 FieldAt W a y.fields) (hy : SlAt 3 FieldAt W b y.fields) :
    Calls Tryd.prog 37 #[.agg #[.string y.name, .slice a n ca], .agg #[.string y.name, .slice b n cb]] W fun e w' => e = .returned (.bool true) ∧ Below W.heap.size W w' := by
  obtain ⟨nm, l⟩ := y
  simp only at hn hz hy ⊢
  have t1 : (nm.toList == nm.toList) = true := beq_self_eq_true _
  have hb0 := ((Below.refl W.heap.size W).alloc (Nat.le_refl _) (.cells #[.string nm, .slice a n ca] 43)).alloc (by simp) (.cells #[.string nm, .slice b n cb] 43)
  have HB0 := Lib.hid hb0
  have HC := Lib.hid (eq_flds l a b n ca cb hn h1 _ (hz.below FieldAt.abides hb0) (hy.below FieldAt.abides hb0))
  clear hn hz hy hb0
  go_enter Tryd.func37, Tryd.ntmps37
  go_wp2_with fail
  refine HC.out.mono ?_
  rintro e w1 ⟨rfl, hb1⟩
  have HB1 := Lib.hid (HB0.out.trans (hb1.mono (by simp; omega)))
  clear hb1
  go_wp2_with fail
  go_ret
  exact ⟨rfl, HB1.out⟩
end Go.Proofs.YtijeninfmjhbnaaDoor
end
/- A slice, read whole, with the size of each of its elements. -/
section
namespace Go.Proofs.YtijeninfmjhbnaaDoor
open Go.RowKit Go.ChangeShapes Go.WideShapes Go.Deep Go.Mem
set_option linter.unusedVariables false
theorem weightsAll_mem {H : Type} {P : Program} {e : TypeId} : ∀ {l : List (DataW H)} {d : DataW H}, d ∈ l → ∀ n ∈ d.weights P e, n ∈ DataW.weightsAll P e l
  | x :: r, d, hd, n, hn => by
    simp only [DataW.weightsAll, List.mem_append]
    rcases List.mem_cons.1 hd with rfl | h
    · exact .inl hn
    · exact .inr (weightsAll_mem h n hn)
section
variable {H : Type} {enc : TypeId × Value → H} {P : Program} {w : World} {base : Nat} {spare : Nat → Bool} {held : Bool}
theorem read_slice_w {α : Type} [Inhabited α] {t e : TypeId} {sz B : Nat} {E : World → Addr → α → Prop} {Sz : α → Prop} (ht : P.underlying t = some (.slice e)) (hs : P.cellsOf e = sz) (h0 : 0 < sz)
    (hE : ∀ (fuel : Nat) (cs : List Value) (x : DataW H × List MemPlace) (p : Addr), cs.length = sz → (∀ j, j < sz → w.cell? (p.add j) = cs[j]?) → DataW.trod enc P w base spare held fuel e cs = some x → (∀ n ∈ x.1.weights P e, n ≤ B) → ∃ y, E w p y ∧ Sz y)
    {fuel : Nat} {cs : List Value} {x : DataW H × List MemPlace} (h : DataW.trod enc P w base spare held fuel t cs = some x) (hw : ∀ n ∈ x.1.weights P t, n ≤ B) :
    ∃ (a : Option Addr) (l : List α) (cap : Nat), cs = [.slice a l.length cap] ∧ l.length ≤ cap ∧ cap ≤ maxLen ∧ SlAt sz E w a l ∧ (∀ y ∈ l, Sz y) ∧ l.length * P.bytesOf e ≤ B := by
  rcases open_slice ht h with ⟨rfl, rfl⟩ | ⟨a, n, cap, m, n2, D, Pl, rfl, _, hl, hm, hmm, rfl, hi⟩
  · exact ⟨none, [], 0, rfl, Nat.le_refl _, Nat.zero_le _, fun hh => by simp at hh, (fun y hy => by cases hy), by simp⟩
  · have hnm : n ≤ m := by rw [hmm]; split <;> omega
    have hlen : n * P.bytesOf e ≤ B := by
      refine Nat.le_trans (Nat.mul_le_mul_right _ ?_) (hw _ (by simp only [DataW.weights, ht, List.mem_cons]; exact .inl rfl))
      simp
    have key : ∀ i, i < n → ∃ y, E w (a.add (i * sz)) y ∧ Sz y := by
      intro i hin
      obtain ⟨cs', hc, htr⟩ := hi i (by omega)
      obtain ⟨_, hcl, hat⟩ := World.cells?_some hc
      rw [hs] at hcl hat
      refine hE _ cs' _ (a.add (i * sz)) hcl (fun j hj => hat j hj) htr fun k hk => hw k ?_
      simp only [DataW.weights, ht, List.mem_cons, List.mem_append]
      exact .inr (.inl (weightsAll_mem (List.mem_map.2 ⟨i, List.mem_range.2 hin, rfl⟩) k hk))
    obtain ⟨Y, hY⟩ := choose_lt key
    refine ⟨some a, (List.range n).map Y, cap, by simp, by simpa using hl, hm, fun hh => ?_, fun y hy => ?_, by simpa using hlen⟩
    · rw [List.length_map, List.length_range] at hh
      refine ⟨a, rfl, ?_, fun i hi' => ?_⟩
      · obtain ⟨cs', hc, _⟩ := hi 0 (by omega)
        obtain ⟨_, hcl, hat⟩ := World.cells?_some hc
        have h1 := hat 0 (by rw [hs]; exact h0)
        rw [List.getElem?_eq_getElem (by rw [hcl, hs]; exact h0)] at h1
        have := World.block_lt_of_cell? _ _ h1
        simpa [block_of_add] using this
      · rw [List.length_map, List.length_range] at hi'
        simpa using (hY i hi').1
    · obtain ⟨i, hi', rfl⟩ := List.mem_map.1 hy
      exact (hY i (List.mem_range.1 hi')).2
end
end Go.Proofs.YtijeninfmjhbnaaDoor
end
/- Arguments of nested slices and structs, read whole, with the size of each of their rows. -/
section
namespace Go.Proofs.YtijeninfmjhbnaaDoor
open Go.RowKit Go.ChangeShapes Go.WideShapes Go.Deep Go.Mem
set_option linter.unusedVariables false
section
variable {H : Type} {enc : TypeId × Value → H} {w : World} {base : Nat} {spare : Nat → Bool} {held : Bool}
set_option maxRecDepth 100000 in
theorem read_fields_w {fuel : Nat} {cs : List Value} {x : DataW H × List MemPlace} {B : Nat} (h : DataW.trod enc Tryd.prog w base spare held fuel 41 cs = some x) (hw : ∀ n ∈ x.1.weights Tryd.prog 41, n ≤ B) :
    ∃ (a : Option Addr) (l : List FieldV) (cap : Nat), cs = [.slice a l.length cap] ∧ l.length ≤ cap ∧ cap ≤ maxLen ∧ SlAt 3 FieldAt w a l ∧ l.length * 32 ≤ B := by
  obtain ⟨a, l, cap, h1, h2, h3, h4, _, h5⟩ := read_slice_w (sz := 3) (E := FieldAt) (Sz := fun _ => True) Tryd.underlying41 (by kernel_rfl) (by decide) (fun fuel cs x p hl hc ht _ => by obtain ⟨y, hy, _⟩ := read_field fuel cs x p hl hc ht; exact ⟨y, hy, trivial⟩) h hw
  rw [show Tryd.prog.bytesOf 40 = 32 by kernel_rfl] at h5
  exact ⟨a, l, cap, h1, h2, h3, h4, h5⟩
theorem each2 {t : TypeId} {d0 d1 : DataW H} {t0 t1 : TypeId} {fs : Array Field} (hu : Tryd.prog.underlying t = some (.struct fs)) (hf : fs.toList.map (·.type) = [t0, t1]) {n : Nat} (hn : n ∈ d1.weights Tryd.prog t1) :
    n ∈ DataW.weights Tryd.prog t (.agg [d0, d1]) := by
  simp only [DataW.weights, hu, hf, DataW.weightsEach, List.mem_append]
  exact .inr (.inl hn)
set_option maxRecDepth 100000 in
theorem read_kind_w {B : Nat} (fuel : Nat) (cs : List Value) (x : DataW H × List MemPlace) (p : Addr) (hl : cs.length = 2) (hc : ∀ j, j < 2 → w.cell? (p.add j) = cs[j]?) (ht : DataW.trod enc Tryd.prog w base spare held fuel 43 cs = some x) (hw : ∀ n ∈ x.1.weights Tryd.prog 43, n ≤ B) :
    ∃ y, KindAt w p y ∧ y.fields.length * 32 ≤ B := by
  obtain ⟨xs, n, _, rfl, _, hxl, hf⟩ := DataW.trod_struct Tryd.underlying43 ht
  match cs, hl with
  | [v0, v1], _ =>
    have g0 : DataW.trod enc Tryd.prog w base spare held n 9 (([v0, v1].drop 0).take (Tryd.prog.cellsOf 9)) = xs[0]? := hf 0 _ rfl
    have g1 : DataW.trod enc Tryd.prog w base spare held n 41 (([v0, v1].drop 1).take (Tryd.prog.cellsOf 41)) = xs[1]? := hf 1 _ rfl
    rw [show Tryd.prog.cellsOf 9 = 1 by kernel_rfl] at g0
    rw [show Tryd.prog.cellsOf 41 = 1 by kernel_rfl] at g1
    match xs, hxl with
    | [y0, y1], _ =>
      obtain ⟨s, e0, hx0, hs⟩ := DataW.trod_string Tryd.underlying9 (show DataW.trod enc Tryd.prog w base spare held n 9 [v0] = some y0 from g0)
      obtain ⟨a, l, cap, e1, q1, q2, q3, q4⟩ := read_fields_w (B := B) (show DataW.trod enc Tryd.prog w base spare held n 41 [v1] = some y1 from g1) (fun k hk => hw k (each2 Tryd.underlying43 rfl hk))
      injection e0 with e0; injection e1 with e1
      subst e0 e1
      have c0 := hc 0 (by decide)
      have c1 := hc 1 (by decide)
      unfold maxLen at hs q2
      exact ⟨⟨s, l⟩, ⟨by simpa [Addr.add] using c0, by simp only; omega, a, cap, by simpa [Addr.add] using c1, q1, by omega, q3⟩, q4⟩
set_option maxRecDepth 100000 in
theorem read_kinds_w {fuel : Nat} {cs : List Value} {x : DataW H × List MemPlace} {B : Nat} (h : DataW.trod enc Tryd.prog w base spare held fuel 22 cs = some x) (hw : ∀ n ∈ x.1.weights Tryd.prog 22, n ≤ B) :
    ∃ (a : Option Addr) (l : List KindV) (cap : Nat), cs = [.slice a l.length cap] ∧ l.length ≤ cap ∧ cap ≤ maxLen ∧ SlAt 2 KindAt w a l ∧ (∀ y ∈ l, y.fields.length * 32 ≤ B) ∧ l.length * 40 ≤ B := by
  obtain ⟨a, l, cap, h1, h2, h3, h4, h6, h5⟩ := read_slice_w (sz := 2) (E := KindAt) (Sz := fun y : KindV => y.fields.length * 32 ≤ B) Tryd.underlying22 (by kernel_rfl) (by decide) read_kind_w h hw
  rw [show Tryd.prog.bytesOf 43 = 40 by kernel_rfl] at h5
  exact ⟨a, l, cap, h1, h2, h3, h4, h6, h5⟩
set_option maxRecDepth 100000 in
theorem open_kind_w {B : Nat} {r : Reach} {b0 : Nat} {v : Value} {d : DataW H} {p : List MemPlace} (hv : Value.okWide Tryd.prog w r b0 43 v) (h : DataW.Trod enc Tryd.prog w base spare held 43 v d p) (hw : ∀ n ∈ d.weights Tryd.prog 43, n ≤ B) :
    ∃ (y : KindV) (a : Option Addr) (cap : Nat), v = .agg #[.string y.name, .slice a y.fields.length cap] ∧ y.name.size ≤ 9223372036854775807 ∧ y.fields.length ≤ cap ∧ cap ≤ 9223372036854775807 ∧ SlAt 3 FieldAt w a y.fields ∧ y.fields.length * 32 ≤ B := by
  obtain ⟨v0, v1, y0, y1, n, rfl, rfl, _, h0, h1⟩ := Joins.open_agg2 Tryd.underlying43 (by kernel_rfl) (by kernel_rfl) hv h
  obtain ⟨s, e0, hx0, hs⟩ := DataW.trod_string Tryd.underlying9 h0
  obtain ⟨a, l, cap, e1, q1, q2, q3, q4⟩ := read_fields_w h1 (fun k hk => hw k (each2 Tryd.underlying43 rfl hk))
  injection e0 with e0; injection e1 with e1
  subst e0 e1
  unfold maxLen at hs q2
  exact ⟨⟨s, l⟩, a, cap, rfl, by simp only; omega, q1, by omega, q3, q4⟩
end
end Go.Proofs.YtijeninfmjhbnaaDoor
end
