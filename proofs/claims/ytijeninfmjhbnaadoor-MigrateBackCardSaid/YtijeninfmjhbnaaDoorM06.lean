/- Lemmas for the law MigrateBack: RegMore, KindFit, RegTail. No conditions. -/
import Derived.Test.YtijeninfmjhbnaaDoorM05
import Derived.Test.YtijeninfmjhbnaaDoorM01
import Derived.Great.BuildSlice
import Derived.Lib.SliceRun
import Derived.Test.YtijeninfmjhbnaaDoorM04
import Derived.Shelf.Abstract
/- More operations of a region that is walked by facts: a call of a function value, a negation, a slice literal. -/
section
namespace Go.Mem
open Go.Proofs Go.RowKit
section
variable {P : Program} {ops : Array Oper} {o : Oper} {F : Act} {w : World} {Q : Exit → Act → World → Prop}
theorem one_callv {f : FuncId} (x : Operand) (args : Array Operand) (T : Array TypeId) (hgd : o.guard = none) (ho : o.op = .call { callee := .value x, args := args, argTypes := T }) (hx : F.eval x = .func (.func f) #[] #[]) (hE : ∀ (args : Array Value) (w : World), (callFunc f args).run P w = .ok (.enter f args) w)
    (vals : Array Value) (hv : args.map F.eval = vals) (h : Calls P f vals w fun e w' => ∃ v, e = .returned v ∧ Q .normal (F.put o.dst v) w') : wpList P ops Q [o] F w := by
  refine wpList_plain hgd fun K hK => ?_
  unfold Oper.wp execOp
  simp [ho, resolve, Deferred.ofValue, invoke, hv, hx, hE, Oper.upon]
  exact h.mono (fun e w' ⟨v, he, hq⟩ => by subst he; exact hK _ _ hq)
theorem one_unop (u : UnOp) (ty : TypeId) (x : Operand) (hgd : o.guard = none) (ho : o.op = .unOp u ty x) (v r : Value) (hx : F.eval x = v)
    (hi : ∀ w : World, (Op.unary u v).run P w = .ok r w) (h : Q .normal (F.put o.dst r) w) : wpList P ops Q [o] F w := by
  refine wpList_plain hgd fun K hK => ?_
  unfold Oper.wp execOp
  simp [ho, hx, hi, Oper.upon]
  exact hK _ _ h
theorem one_index (ty : TypeId) (x y : Operand) (hgd : o.guard = none) (ho : o.op = .indexAddr ty x y) (u v r : Value) (hx : F.eval x = u) (hy : F.eval y = v)
    (hi : ∀ w : World, (Instr.indexAt ty u v).run P w = .ok r w) (h : Q .normal (F.put o.dst r) w) : wpList P ops Q [o] F w := by
  refine wpList_plain hgd fun K hK => ?_
  unfold Oper.wp execOp
  simp [ho, hx, hy, hi, Oper.upon]
  exact hK _ _ h
theorem wpList_store_cell {rest : List Oper} {a : Act} (hgd : o.guard = none) (ty : TypeId) (x y : Operand) (ho : o.op = .store ty x y) (b i : Nat) (z : Int) (old : Value) (hx : a.eval x = .pointer (some ⟨b, i, none⟩)) (hy : a.eval y = .int .i64 z) (hc : w.cell? ⟨b, i, none⟩ = some old) (hf : w.frozen? ⟨b, i, none⟩ = false)
    (hi : (P.info? ty).map (·.size) = some 1) (h : wpList P ops Q rest (a.put o.dst undef) (w.setCell ⟨b, i, none⟩ (.int .i64 z))) : wpList P ops Q (o :: rest) a w := by
  have hrun : (storeVar ty ⟨b, i, none⟩ (.int .i64 z)).run P w = .ok () (w.setCell ⟨b, i, none⟩ (.int .i64 z)) := by
    cases hq : P.info? ty with
    | none => simp [hq] at hi
    | some ie =>
      have hs : ie.size = 1 := by simpa [hq] using hi
      have hst := run_storeCells_cells (P := P) b i [.int .i64 z] 0 w (fun j hj => by simp at hj; subst hj; simp [hc]) (fun j hj => by simp at hj; subst hj; exact hf) (by simp [Value.oneCell'])
      simp only [Nat.add_zero] at hst
      have hcl : (Value.int .i64 z).cells = #[.int .i64 z] := rfl
      simp [storeVar, sizeOf, typeInfo, hq, hs, hcl, hst, World.setCells]
  refine wpList_plain hgd fun K hK => ?_
  unfold Oper.wp execOp
  simp [ho, hx, hy, Instr.storeAt, Instr.sureAddr, hrun, Oper.upon]
  exact hK _ _ h
theorem one_slice4 (t e : TypeId) (x0 x1 x2 x3 : Operand) (hgd : o.guard = none) (ho : o.op = .buildSlice t 4 #[(0, x0), (1, x1), (2, x2), (3, x3)]) (a b c d : Int) (h0 : F.eval x0 = .int .i64 a) (h1 : F.eval x1 = .int .i64 b) (h2 : F.eval x2 = .int .i64 c) (h3 : F.eval x3 = .int .i64 d)
    (hu : P.underlying t = some (.slice e)) (hie : (P.info? e).map (fun i => (i.zero, i.size)) = some (some (.int .i64 0), 1))
    (h : Q .normal (F.put o.dst (.slice (some ⟨w.heap.size, 0, none⟩) 4 4)) (w.alloc (.cells #[.int .i64 a, .int .i64 b, .int .i64 c, .int .i64 d] e))) : wpList P ops Q [o] F w := by
  obtain ⟨ie, hi, hzz⟩ := Option.map_eq_some_iff.1 hie
  simp only [Prod.mk.injEq] at hzz
  refine wpList_plain hgd fun K hK => ?_
  refine wp_buildSlice t e 4 _ ho #[.int .i64 a, .int .i64 b, .int .i64 c, .int .i64 d] ie (.int .i64 0) hu hi hzz.1 (by rw [hzz.2]; decide) (by rw [hzz.2]; decide) ?_ (hK _ _ h)
  rw [hzz.2]
  simp only [List.map_toArray, List.map_cons, List.map_nil, h0, h1, h2, h3]
  have hr : Array.range 4 = #[0, 1, 2, 3] := by decide
  simp [Instr.fill, Value.cells, hr]
end
theorem parts3 {F : Act} {i j k : Nat} {x y z : Operand} {u v p : Value} (hx : F.eval x = u) (hy : F.eval y = v) (hz : F.eval z = p) : #[(i, x), (j, y), (k, z)].map (fun p => (p.1, F.eval p.2)) = #[(i, u), (j, v), (k, p)] := by simp [hx, hy, hz]
/-- A slice of the region's own. -/
def NewInts (zs : List Int) (v : Value) (w : World) : Prop := ∃ X, v = .slice (some ⟨X, 0, none⟩) 4 4 ∧ IntsAt .i64 w (some ⟨X, 0, none⟩) zs
theorem NewInts.mono {zs : List Int} {w w' : World} {v : Value} (h : NewInts zs v w) (hb : RowKit.Below w.heap.size w w') : NewInts zs v w' := by
  obtain ⟨X, h1, h2⟩ := h
  exact ⟨X, h1, h2.below hb⟩
end Go.Mem
end
/- kind.Fit. -/
section
namespace Go.Proofs.YtijeninfmjhbnaaDoor
open Go.ChangeShapes Go.WideShapes Go.ChangeAt Go.RowKit Go.Nm Go.Mem
set_option linter.unusedVariables false
def nearV (f : FieldV) (v : Int) : Int := nearF f.bits.toNat f.low v
def fitL (l : List FieldV) (vals : List Int) : List Int := List.zipWith nearV l vals
def fitE (k : KindV) (vals : List Int) : Int := if kindE k ≠ 0 then kindE k else if vals.length ≠ k.fields.length then 1 else 0
theorem fld_ok (l : List FieldV) (n : Nat) (h : fldErr l n = 0) : ∀ i, i < n → okF (l.getD i default) = true := by
  induction n with
  | zero => intro i hi; omega
  | succ n ih =>
    have h0 : fldErr l n = 0 := by
      by_cases h1 : fldErr l n = 0
      · exact h1
      · rw [fldErr_stays l n (n + 1) (by omega) h1] at h; exact absurd h h1
    rw [fld_step l n h0] at h
    intro i hi
    by_cases hin : i < n
    · exact ih h0 i hin
    · obtain rfl : i = n := by omega
      by_cases ho : okF (l.getD i default) = false
      · rw [if_pos ho] at h; exact absurd h (by decide)
      · simpa using ho
theorem kind_ok {k : KindV} (h : kindE k = 0) : k.fields.length ≤ 8 ∧ ∀ i (hi : i < k.fields.length), okF k.fields[i] = true := by
  unfold kindE at h
  by_cases h1 : nameB k.name.data.toList = false
  · rw [if_pos h1] at h; exact absurd h (by decide)
  · rw [if_neg h1] at h
    by_cases h2 : 8 < k.fields.length
    · rw [if_pos h2] at h; exact absurd h (by decide)
    · rw [if_neg h2] at h
      refine ⟨by omega, fun i hi => ?_⟩
      have := fld_ok _ _ h i hi
      rw [getD_at _ _ hi] at this
      exact this
theorem okF_parts {f : FieldV} (h : okF f = true) : ∃ n : Nat, f.bits = (n : Int) ∧ 1 ≤ n ∧ n ≤ 32 ∧ -4294967296 ≤ f.low ∧ f.low ≤ 4294967296 ∧ f.bits.toNat = n := by
  unfold okF at h
  rcases field_cases f.name f.bits f.low with ⟨_, _, h1, h2, h3, h4⟩ | ⟨hf, _⟩
  · exact ⟨f.bits.toNat, by omega, by omega, by omega, h3, h4, rfl⟩
  · rw [hf] at h; exact absurd h (by decide)
theorem near_at (f : FieldV) (v : Int) (h : okF f = true) (hs : f.name.size ≤ 9223372036854775807) (w : World) : Calls Tryd.prog 67 #[.agg #[.string f.name, .int .i64 f.bits, .int .i64 f.low], .int .i64 v] w fun e w' => e = .returned (.int .i64 (nearV f v)) ∧ Below w.heap.size w w' := by
  obtain ⟨n, h1, h2, h3, h4, h5, h6⟩ := okF_parts h
  unfold okF at h
  unfold nearV
  rw [h6, h1]
  rw [h1] at h
  exact Near_ok f.name n f.low v hs h h2 h3 h4 h5 w
theorem nearest_at (f : FieldV) (v : Int) (h : okF f = true) (hs : f.name.size ≤ 9223372036854775807) (w : World) : Calls Tryd.prog 35 #[.agg #[.string f.name, .int .i64 f.bits, .int .i64 f.low], .int .i64 v] w fun e w' => e = .returned (.int .i64 (nearV f v)) ∧ Below w.heap.size w w' := by
  obtain ⟨n, h1, h2, h3, h4, h5, h6⟩ := okF_parts h
  unfold okF at h
  unfold nearV
  rw [h6, h1]
  rw [h1] at h
  exact Nearest_ok f.name n f.low v hs h h2 h3 h4 h5 w
def FitPost (k : KindV) (vals : List Int) (W : World) (e : Ending) (w' : World) : Prop := (fitE k vals ≠ 0 → e = .returned (.tuple #[.slice none 0 0, .int .i64 (fitE k vals)])) ∧
  (fitE k vals = 0 → ∃ a c, e = .returned (.tuple #[.slice a vals.length c, .int .i64 0]) ∧ IntsAt .i64 w' a (fitL k.fields vals)) ∧ Below W.heap.size W w'
def F_fit (BB G i m cv : Nat) (u : Int) (z : Addr) (y : FieldV) (j : Nat) (v : Value) (w : World) : Prop :=
  match j with
  | 0 => v = .slice (some ⟨G, 0, none⟩) m m
  | 1 => v = .int .i64 i
  | 2 => v = .agg #[.string y.name, .int .i64 y.bits, .int .i64 y.low]
  | 3 => v = .slice (some z) m cv
  | 4 => v = .int .i64 i
  | 5 => v = .pointer (some (z.add i))
  | 6 => v = .int .i64 u
  | 7 => v = .int .i64 (nearV y u)
  | 8 => v = .pointer (some ⟨G, i, none⟩)
  | _ => True
theorem F_fit_mono (BB G i m cv : Nat) (u : Int) (z : Addr) (y : FieldV) : Facts (F_fit BB G i m cv u z y) := ⟨fun j v w w' h _ => by
  unfold F_fit at h ⊢
  split at h
  all_goals first | exact h | trivial⟩
set_option maxHeartbeats 8000000 in
theorem kind_Fit (k : KindV) (a : Option Addr) (n cap : Nat) (vals : List Int) (av : Option Addr) (m cv : Nat) (hn : k.fields.length = n) (hm : vals.length = m) (hm9 : m ≤ 9223372036854775807) (hnm : k.name.size ≤ 9223372036854775807) (hnc : n ≤ cap) (hcm : cap ≤ 9223372036854775807) (W : World) (hz : SlAt 3 FieldAt W a k.fields) (hv : IntsAt .i64 W av vals) :
    Calls Tryd.prog 45 #[.agg #[.string k.name, .slice a n cap], .slice av m cv] W (FitPost k vals W) := by
  have hb0 := (Below.refl W.heap.size W).alloc (Nat.le_refl _) (.cells #[.string k.name, .slice a n cap] 43)
  have hc := kind_One k a n cap hn hnm hnc hcm (W.alloc (.cells #[.string k.name, .slice a n cap] 43)) (hz.below FieldAt.abides hb0)
  have x0 := heap_alloc_new W (.cells #[.string k.name, .slice a n cap] 43)
  have HB0 := Lib.hid hb0
  have HX0 := Lib.hid x0
  have HN := Lib.hid hn
  have HM := Lib.hid hm
  have HZ := Lib.hid hz
  have HV := Lib.hid hv
  obtain ⟨nm, l⟩ := k
  simp only at hc HX0 HB0 hnm HN HZ ⊢
  obtain ⟨e1, he1⟩ : ∃ e1, e1 = kindE ⟨nm, l⟩ := ⟨_, rfl⟩
  rw [← he1] at hc
  have HE := Lib.hid he1
  have HC := Lib.hid hc
  clear hb0 hc x0 hn hm hz hv he1
  by_cases he : e1 = 0
  · subst he
    obtain ⟨hn8, hok⟩ := kind_ok HE.out.symm
    simp only at hn8 hok
    rw [HN.out] at hn8
    have HOK := Lib.hid hok
    clear hok
    go_enter Tryd.func45, Tryd.ntmps45
    go_wp2_with fail
    refine HC.out.mono ?_
    rintro e w1 ⟨rfl, hb1⟩
    have hx1 := heap_below HX0.out hb1
    have c1 : w1.cell? ⟨W.heap.size, 1, none⟩ = some (.slice a n cap) := by rw [cell_of_row _ _ 1 _ _ _ hx1]; rfl
    have hbw := HB0.out.trans (hb1.mono (by simp))
    have HB1 := Lib.hid hbw
    have HX1 := Lib.hid hx1
    have hs1 := hbw.size
    clear hb1 hx1 hbw HC HX0 HB0
    by_cases hmn : m = n
    · subst hmn
      have HFE := Lib.hid (show fitE ⟨nm, l⟩ vals = 0 by unfold fitE; rw [if_neg (by rw [← HE.out]; simp), if_neg (by simp only; rw [HM.out, HN.out]; simp)])
      have t0 : ((m : Int) != (m : Int)) = false := by simp
      go_wp2_with (at_make; go_must (refine wpList_make_rowB rfl _ _ 23 rfl 3 .i64 8 Tryd.underlying23 (by kernel_rfl) _ _ _ _ m rfl rfl rfl rfl ?b1 ?b2 ?_))
      case b1 => omega
      case b2 => unfold maxLen; omega
      intro w2 hrow hb2 hs2
      have c2 : w2.cell? ⟨W.heap.size, 1, none⟩ = some (.slice a m cap) := by rw [cell_of_row _ _ 1 _ _ _ (heap_below HX1.out hb2)]; rfl
      obtain ⟨G, hG⟩ : ∃ G, G = w1.heap.size := ⟨_, rfl⟩
      rw [← hG] at hrow hs2 ⊢
      have hWG : W.heap.size ≤ G := by rw [hG]; exact HB1.out.size
      have HROW := Lib.hid hrow
      have HB2 := Lib.hid (HB1.out.trans (hb2.mono HB1.out.size))
      clear hrow hb2 hG c1 hs2
      go_wp2_with fail
      clear c2
      go_loopg [8, 9, 27] m (fun gk v8 v9 vi wx => ∃ (i : Nat) (out : List Int), i ≤ m ∧ gk = m - i ∧ vi = .int .i64 i ∧ out.length = m ∧ (∀ j (h1 : j < l.length) (h2 : j < vals.length), j < i → out.getD j 0 = nearV l[j] vals[j]) ∧ RowB wx G 3 .i64 out ∧ Below W.heap.size W wx)
      case atStart => exact ⟨0, List.replicate m 0, Nat.zero_le _, rfl, rfl, by simp, fun j _ _ h => absurd h (by omega), HROW.out, HB2.out⟩
      case round =>
        obtain ⟨i, out, hi, g2, rfl, hol, hat, hrow, hb⟩ := hrel
        have G2 := Lib.hid g2
        have HOL := Lib.hid hol
        have HAT := Lib.hid hat
        have HROW2 := Lib.hid hrow
        have HB := Lib.hid hb
        have hbs := hb.size
        have hgl := hrow.lt
        clear g2 hol hat hrow hb HROW HB2
        by_cases hlt : i < m
        · obtain ⟨x, rfl, hx, hix⟩ := (HZ.out.below FieldAt.abides HB.out) (by rw [HN.out]; omega)
          obtain ⟨z, rfl, hzl, hiz⟩ := (HV.out.below HB.out) (by rw [HM.out]; omega)
          obtain ⟨k0, k1, k2, k3⟩ := hix i (by rw [HN.out]; exact hlt)
          have kv := hiz i (by rw [HM.out]; exact hlt)
          obtain ⟨y, hy⟩ : ∃ y, y = l[i]'(by rw [HN.out]; exact hlt) := ⟨_, rfl⟩
          rw [← hy] at k0 k1 k2 k3
          obtain ⟨u, hu⟩ : ∃ u, u = vals.getD i 0 := ⟨_, rfl⟩
          rw [← hu] at kv
          have hoky : okF y = true := by rw [hy]; exact HOK.out i (by rw [HN.out]; exact hlt)
          have HNR := Lib.hid (near_at y u hoky k3)
          have HY := Lib.hid hy
          have HU := Lib.hid hu
          clear hix hiz hy hu hoky k3
          go_wp2_with fail
          have hb0 := (Below.refl wr.heap.size wr).alloc (Nat.le_refl _) (.cells #[.string y.name, .int .i64 y.bits, .int .i64 y.low] 40)
          have B0 := heap_alloc_new wr (.cells #[.string y.name, .int .i64 y.bits, .int .i64 y.low] 40)
          have B1 := cell_abides kv hb0
          refine wp_region_facts rfl 9 (by kernel_rfl) (F_fit wr.heap.size G i m cv u z y) (F_fit_mono wr.heap.size G i m cv u z y) ?_ ?_
          · refine ⟨?_, ?_, ?_, ?_, ?_, ?_, ?_, ?_, ?_, trivial⟩
            · intro vs w' F hb hd hF hl
              have e := (hF 7).trans (look_out _ 7 _ _ (by kernel_rfl))
              exact one_move _ rfl (by first | exact Or.inl rfl | exact Or.inr rfl) ⟨_, rfl, Below.refl _ _, e⟩
            · intro vs w' F hb hd hF hl
              have e := (hF 8).trans (look_out _ 8 _ _ (by kernel_rfl))
              exact one_move _ rfl (by first | exact Or.inl rfl | exact Or.inr rfl) ⟨_, rfl, Below.refl _ _, e⟩
            · intro vs w' F hb hd hF hl
              have e := ((hF 9).trans (look_out _ 9 _ _ (by kernel_rfl)))
              exact one_load_row 40 _ rfl rfl wr.heap.size #[.string y.name, .int .i64 y.bits, .int .i64 y.low] 40 (0, 0) e (heap_below B0 hb) _ Tryd.underlying40 rfl (by kernel_rfl) ⟨_, rfl, Below.refl _ _, rfl⟩
            · intro vs w' F hb hd hF hl
              have e := (hF 1).trans (look_out _ 1 _ _ (by kernel_rfl))
              exact one_move _ rfl (by first | exact Or.inl rfl | exact Or.inr rfl) ⟨_, rfl, Below.refl _ _, e⟩
            · intro vs w' F hb hd hF hl
              have e := (hF 8).trans (look_out _ 8 _ _ (by kernel_rfl))
              exact one_move _ rfl (by first | exact Or.inl rfl | exact Or.inr rfl) ⟨_, rfl, Below.refl _ _, e⟩
            · intro vs w' F hb hd hF hl
              have ex := (((hF 35).trans (look_at _ 35 3 _ _ (by kernel_rfl) (by kernel_rfl) hl)).trans (dep_of (Fact := F_fit wr.heap.size G i m cv u z y) hd 3 (by kernel_rfl)))
              have ey := (((hF 36).trans (look_at _ 36 4 _ _ (by kernel_rfl) (by kernel_rfl) hl)).trans (dep_of (Fact := F_fit wr.heap.size G i m cv u z y) hd 4 (by kernel_rfl)))
              exact one_index 23 _ _ rfl rfl (.slice (some z) m cv) (.int .i64 i) (.pointer (some (z.add i))) ex ey (fun w => by clear hb hd hF hl ex ey; go_simp) ⟨_, rfl, Below.refl _ _, rfl⟩
            · intro vs w' F hb hd hF hl
              have e := (((hF 37).trans (look_at _ 37 5 _ _ (by kernel_rfl) (by kernel_rfl) hl)).trans (dep_of (Fact := F_fit wr.heap.size G i m cv u z y) hd 5 (by kernel_rfl)))
              exact one_load _ _ rfl rfl _ _ e (cell_abides B1 hb) (by kernel_rfl) ⟨_, rfl, Below.refl _ _, rfl⟩
            · intro vs w' F hb hd hF hl
              have e1 := (((hF 34).trans (look_at _ 34 2 _ _ (by kernel_rfl) (by kernel_rfl) hl)).trans (dep_of (Fact := F_fit wr.heap.size G i m cv u z y) hd 2 (by kernel_rfl)))
              have e2 := (((hF 38).trans (look_at _ 38 6 _ _ (by kernel_rfl) (by kernel_rfl) hl)).trans (dep_of (Fact := F_fit wr.heap.size G i m cv u z y) hd 6 (by kernel_rfl)))
              refine one_call _ _ rfl rfl (enters_of Tryd.func67 (by kernel_rfl) rfl) #[.agg #[.string y.name, .int .i64 y.bits, .int .i64 y.low], .int .i64 u] (eval2 e1 e2) ?_
              refine (HNR.out w').mono ?_
              rintro e3 w2 ⟨rfl, hb2⟩
              exact ⟨_, rfl, _, rfl, hb2, rfl⟩
            · intro vs w' F hb hd hF hl
              have ex := (((hF 32).trans (look_at _ 32 0 _ _ (by kernel_rfl) (by kernel_rfl) hl)).trans (dep_of (Fact := F_fit wr.heap.size G i m cv u z y) hd 0 (by kernel_rfl)))
              have ey := (((hF 33).trans (look_at _ 33 1 _ _ (by kernel_rfl) (by kernel_rfl) hl)).trans (dep_of (Fact := F_fit wr.heap.size G i m cv u z y) hd 1 (by kernel_rfl)))
              exact one_index 23 _ _ rfl rfl (.slice (some ⟨G, 0, none⟩) m m) (.int .i64 i) (.pointer (some ⟨G, i, none⟩)) ex ey (fun w => by clear hb hd hF hl ex ey; go_simp) ⟨_, rfl, Below.refl _ _, rfl⟩
          · intro vs W1 hl hb hI
            have i7 : vs.getD 7 undef = .int .i64 (nearV y u) := hI 7 (by omega)
            have i8 : vs.getD 8 undef = .pointer (some ⟨G, i, none⟩) := hI 8 (by omega)
            obtain ⟨v0, v1, v2, v3, v4, v5, v6, v7, v8, v9, rfl⟩ := list10 hl
            replace i7 : v7 = .int .i64 (nearV y u) := i7
            replace i8 : v8 = .pointer (some ⟨G, i, none⟩) := i8
            subst i7 i8
            have hrow1 := (HROW2.out.alloc (.cells #[.string y.name, .int .i64 y.bits, .int .i64 y.low] 40)).below hb
            have f0 := hrow1.cell i (by rw [HOL.out]; exact hlt)
            have f1 := hrow1.frozen i
            have hbw : Below wr.heap.size wr W1 := hb0.trans (hb.mono (by simp))
            have HBN := Lib.hid ((HB.out.trans (hbw.mono HB.out.size)).setCell (p := ⟨G, i, none⟩) hWG (.int .i64 (nearV y u)))
            have HRN := Lib.hid (hrow1.set i (nearV y u))
            have HATN : Hid (∀ j (h1 : j < l.length) (h2 : j < vals.length), j < i + 1 → (out.set i (nearV y u)).getD j 0 = nearV l[j] vals[j]) := Lib.hid (fun j h1 h2 hj => by
              by_cases hji : j < i
              · rw [List.getD_eq_getElem?_getD, List.getElem?_set_ne (by omega), ← List.getD_eq_getElem?_getD]
                exact HAT.out j h1 h2 hji
              · obtain rfl : j = i := by omega
                rw [List.getD_eq_getElem?_getD, List.getElem?_set_self (by rw [HOL.out]; exact hlt)]
                have e2 : vals[j] = u := by rw [HU.out, List.getD_eq_getElem?_getD, List.getElem?_eq_getElem h2]; rfl
                rw [e2, ← HY.out]; rfl)
            clear hI hl hb hbw hrow1 hb0 B0 B1
            simp only [fillAll, Act.put, List.setIfInBounds_toArray, List.set_cons_succ, List.set_cons_zero]
            go_wp2
            go_roundg (m - (i + 1))
            case measure => rw [G2.out]; omega
            case rel => exact ⟨i + 1, out.set i (nearV y u), hlt, rfl, by go_num, by rw [List.length_set]; exact HOL.out, HATN.out, HRN.out, HBN.out⟩
        · have hie : i = m := by omega
          have hfl : fitL l vals = out := by
            unfold fitL
            refine List.ext_getElem (by rw [List.length_zipWith, HN.out, HM.out, HOL.out]; omega) (fun j h1 h2 => ?_)
            rw [List.length_zipWith] at h1
            rw [List.getElem_zipWith]
            have := HAT.out j (by omega) (by omega) (by rw [HOL.out] at h2; omega)
            rw [List.getD_eq_getElem?_getD, List.getElem?_eq_getElem h2] at this
            exact this.symm
          have HFL := Lib.hid hfl
          clear hie hfl
          go_wp2_with fail
          go_ret2
          exact ⟨fun h => absurd HFE.out h, fun _ => ⟨_, m, by rw [HM.out]; rfl, by simp only; rw [HFL.out]; exact HROW2.out.ints⟩, HB.out⟩
    · have HFE := Lib.hid (show fitE ⟨nm, l⟩ vals = 1 by unfold fitE; rw [if_neg (by rw [← HE.out]; simp), if_pos (by simp only; rw [HM.out, HN.out]; exact hmn)])
      have t0 : ((m : Int) != (n : Int)) = true := by rw [bne_iff_ne]; omega
      clear hmn
      go_wp2_with fail
      go_ret2
      exact ⟨fun _ => by rw [HFE.out]; rfl, fun h => absurd (HFE.out.symm.trans h) (by decide), HB1.out⟩
  · have t1 : (e1 != 0) = true := by rw [bne_iff_ne]; exact he
    have HFE := Lib.hid (show fitE ⟨nm, l⟩ vals = e1 by unfold fitE; rw [if_pos (by rw [← HE.out]; exact he), ← HE.out])
    have HNE := Lib.hid he
    clear he
    go_enter Tryd.func45, Tryd.ntmps45
    go_wp2_with fail
    refine HC.out.mono ?_
    rintro e w1 ⟨rfl, hb1⟩
    have HB1 := Lib.hid (HB0.out.trans (hb1.mono (by simp)))
    clear hb1
    go_wp2_with fail
    go_ret2
    exact ⟨fun _ => by rw [HFE.out]; rfl, fun h => absurd (HFE.out.symm.trans h) HNE.out, HB1.out⟩
end Go.Proofs.YtijeninfmjhbnaaDoor
end
/- Drawn regions by facts: the tail's operations wait for the head by a chain of others (not each by itself). -/
section
namespace Go.Mem
open Go.Proofs
set_option linter.unusedVariables false
/-- operation t waits for operation i, by a chain of at most f waits -/
def ancB (ops : List Oper) : Nat → Nat → Nat → Bool
  | 0, _, _ => false
  | f + 1, t, i => match ops[t]? with
    | none => false
    | some o => o.after.any fun e => Region.binds .any e && (e.on == i || ancB ops f e.on i)
def tailT (ops : List Oper) (n : Nat) : Bool := (ops.zipIdx).all fun x => decide (x.2 < n) || (List.range n).all fun i => ancB ops 8 x.2 i
theorem anc_listed {ops : List Oper} {listed : Array Bool} (hcl : ∀ j o, ops[j]? = some o → listed.getD j true = true → ∀ e ∈ o.after, Region.binds .any e = true → listed.getD e.on true = true) :
    ∀ (f t i : Nat) (o : Oper), ops[t]? = some o → (∀ e ∈ o.after, Region.binds .any e = true → listed.getD e.on true = true) → ancB ops f t i = true → listed.getD i true = true
  | 0, _, _, _, _, _, h => by simp [ancB] at h
  | f + 1, t, i, o, ho, hd, h => by
    simp only [ancB, ho] at h
    obtain ⟨e, he, hbe⟩ := Array.any_eq_true'.1 h
    simp only [Bool.and_eq_true, Bool.or_eq_true, beq_iff_eq] at hbe
    obtain ⟨hb, h1 | h1⟩ := hbe
    · rw [← h1]; exact hd e he hb
    · cases ho2 : ops[e.on]? with
      | none => cases f <;> simp [ancB, ho2] at h1
      | some o2 => exact anc_listed hcl f e.on i o2 ho2 (hcl e.on o2 ho2 (hd e he hb)) h1
section
variable (P : Program) (ops : List Oper) (Q : Exit → Act → World → Prop) (a0 : Act) (W0 : World) (Fact : Nat → Value → World → Prop) (n : Nat)
/-- what is owed for operation i; the tail's slots hold what they held -/
def OblOneT (i : Nat) (o : Oper) : Prop := ∀ (vs : List Value) (w : World) (F : Act), RowKit.Below W0.heap.size W0 w → (∀ e ∈ o.after, Region.binds .any e = true → Fact e.on (vs.getD e.on undef) w) → (∀ t, F.eval (.tmp t) = look a0 t ops vs) → vs.length = ops.length → (∀ t, n ≤ t → vs.getD t undef = (origs a0 ops).getD t undef) → wpList P ops.toArray (QOne Q Fact w i o F) [o] F w
def OblT : List Oper → Nat → Prop
  | [], _ => True
  | o :: r, i => OblOneT P ops Q a0 W0 Fact n i o ∧ OblT r (i + 1)
end
theorem OblT.get {P : Program} {ops : List Oper} {Q : Exit → Act → World → Prop} {a0 : Act} {W0 : World} {Fact : Nat → Value → World → Prop} {n : Nat} : ∀ {l : List Oper} {k : Nat}, OblT P ops Q a0 W0 Fact n l k → ∀ {i : Nat} {o : Oper}, l[i]? = some o → OblOneT P ops Q a0 W0 Fact n (k + i) o
  | [], _, _, i, o, h => by simp at h
  | x :: r, k, H, 0, o, h => by simp at h; subst h; exact H.1
  | x :: r, k, H, i + 1, o, h => by
    have := H.2.get (i := i) (o := o) (by simpa using h)
    rwa [show k + 1 + i = k + (i + 1) by omega] at this
theorem wp_region_facts_t {P : Program} {id : Nat} {ops : List Oper} {Q : Exit → Act → World → Prop} {a0 : Act} {w0 : World} (hm : P.follows .mixedOrders = true) (n : Nat)
    (hac : (acyclicB ops && distinctB ops && tailT ops n && Region.seqB .any ops.toArray (ops.drop n).length n (headTail n (ops.length - n)) && decide (n ≤ ops.length)) = true)
    (Fact : Nat → Value → World → Prop) (hF : Facts Fact)
    (hstep : OblT P ops Q a0 w0 Fact n (ops.take n) 0)
    (hend : ∀ (vs : List Value) (w : World), vs.length = ops.length → RowKit.Below w0.heap.size w0 w → (∀ j, j < n → Fact j (vs.getD j undef) w) → wpList P ops.toArray Q (ops.drop n) (fillAll a0 ops vs) w) :
    (Code.region id ops.toArray true).wp P Q a0 w0 := by
  simp only [Bool.and_eq_true, decide_eq_true_eq] at hac
  obtain ⟨⟨⟨⟨hac, hdis⟩, htl⟩, hseq⟩, hn⟩ := hac
  refine wp_region_any hm ?_
  have key : ∀ (fuel : Nat) (listed : Array Bool) (vs : List Value) (w : World), listed.size = ops.length → vs.length = ops.length → unl listed.toList = fuel → (∀ t, n ≤ t → t < ops.length → listed.getD t true = false) →
      RowKit.Below w0.heap.size w0 w → (∀ j, j < ops.length → listed.getD j true = true → Fact j (vs.getD j undef) w) → (∀ j o, ops[j]? = some o → listed.getD j true = true → ∀ e ∈ o.after, Region.binds .any e = true → listed.getD e.on true = true) → (∀ t, n ≤ t → vs.getD t undef = (origs a0 ops).getD t undef) → wpAny P .any ops.toArray Q fuel listed (fillAll a0 ops vs) w := by
    intro fuel
    induction fuel with
    | zero =>
      intro listed vs w hs hvl hu ht hb hI hcl hT
      have hall : ∀ j, listed.getD j true = true := by
        intro j
        by_cases hj : j < listed.size
        · exact unl_zero hu (listed.getD j true) (by simp [hj])
        · simp [hj]
      have hno : n = ops.length := by
        rcases Nat.lt_or_ge n ops.length with h | h
        · have h1 := ht n (Nat.le_refl _) h; rw [hall n] at h1; cases h1
        · omega
      have hd : ops.drop n = [] := by rw [hno]; simp
      have := hend vs w hvl hb (fun j hj => hI j (by omega) (hall j))
      rw [hd] at this
      refine ⟨?_, this⟩
      unfold Region.ready
      rw [List.filter_eq_nil_iff]
      intro i hi
      simp [hall i]
    | succ fuel ih =>
      intro listed vs w hs hvl hu ht hb hI hcl hT
      by_cases hpre : ∀ j, j < n → listed.getD j true = true
      · -- the head is done: the tail, in its one order
        have hL : listed = headTail n (ops.length - n) := by
          unfold headTail
          apply Array.ext
          · simp; omega
          · intro i h1 h2
            have e : listed[i] = listed.getD i true := by simp [h1]
            rw [e]
            by_cases hi : i < n
            · rw [hpre i hi]; simp [hi]
            · rw [ht i (by omega) (by omega)]; simp [List.getElem_append, hi]
        have hf : fuel + 1 = (ops.drop n).length := by
          rw [← hu, hL]; simp [headTail, unl]
        rw [hf]
        refine wpAny_of_seq (ops.drop n) n listed _ w (fun j => by simp [List.getElem?_drop]) (by rw [hL]; exact hseq) ?_
        exact hend vs w hvl hb (fun j hj => hI j (by omega) (hpre j hj))
      · constructor
        · intro hr
          exfalso
          obtain ⟨i, h1, h2⟩ := first_false listed.toList (by omega)
          have hi : i < listed.size := by
            have := (List.getElem?_eq_some_iff.1 h1).1; simpa using this
          have hio : i < ops.length := by omega
          have hmem : i ∈ Region.ready .any ops.toArray listed := by
            unfold Region.ready
            rw [List.mem_filter]
            refine ⟨by simp; omega, ?_⟩
            have hl : listed.getD i true = false := by simp [Array.getD_eq_getD_getElem?, ← Array.getElem?_toList, h1]
            rw [hl]
            have ho : ops.toArray[i]? = some ops[i] := by simp [hio]
            rw [ho]
            simp only [Option.map_some, Option.getD_some, Bool.not_false, Bool.true_and, Array.all_eq_true_iff_forall_mem]
            intro e he
            unfold acyclicB at hac
            have := List.all_eq_true.1 hac (ops[i], i) (by rw [List.mem_zipIdx_iff_getElem?]; simp [hio])
            have := (Array.all_eq_true_iff_forall_mem.1 this) e he
            simp only [Bool.or_eq_true, Bool.not_eq_true', decide_eq_true_eq] at this ⊢
            rcases this with h | h
            · exact Or.inl h
            · right
              have := h2 e.on h
              simp [Array.getD_eq_getD_getElem?, ← Array.getElem?_toList, this]
          rw [hr] at hmem
          cases hmem
        · intro i hi
          unfold Region.ready at hi
          rw [List.mem_filter] at hi
          obtain ⟨hir, hi⟩ := hi
          have hio : i < ops.length := by simpa using hir
          have hoA : ops.toArray[i]? = some ops[i] := by simp [hio]
          rw [hoA] at hi
          simp only [Option.map_some, Option.getD_some, Bool.and_eq_true, Bool.not_eq_true', Array.all_eq_true_iff_forall_mem] at hi
          obtain ⟨hl, hdep⟩ := hi
          have hdep' : ∀ e ∈ (ops[i]).after, Region.binds .any e = true → e.on < listed.size ∧ listed.getD e.on true = true := by
            intro e he hbd
            have := hdep e he
            rw [hbd] at this
            simp only [Bool.not_true, Bool.false_or] at this
            by_cases hb : e.on < listed.size
            · exact ⟨hb, by simpa [hb] using this⟩
            · simp [hb] at this
          have hin : i < n := by
            rcases Nat.lt_or_ge i n with h | h
            · exact h
            · exfalso
              apply hpre
              intro j hj
              unfold tailT at htl
              have := List.all_eq_true.1 htl (ops[i], i) (by rw [List.mem_zipIdx_iff_getElem?]; simp [hio])
              simp only [Bool.or_eq_true, decide_eq_true_eq] at this
              rcases this with h' | h'
              · omega
              · have := List.all_eq_true.1 h' j (by simp; omega)
                exact anc_listed hcl 8 i j ops[i] (by simp [hio]) (fun e he hbd => (hdep' e he hbd).2) this
          have ho : ops[i]? = some ops[i] := by simp [hio]
          have hot : (ops.take n)[i]? = some ops[i] := by rw [List.getElem?_take, if_pos hin]; exact ho
          have hl' : listed.toList[i]? = some false := by
            have hlt : i < listed.size := by omega
            have : listed.getD i true = listed[i] := by simp [hlt]
            rw [this] at hl
            rw [Array.getElem?_toList, Array.getElem?_eq_getElem hlt, hl]
          have hstep' := hstep.get hot
          rw [Nat.zero_add] at hstep'
          have H := hstep' vs w (fillAll a0 ops vs) hb (fun e he hbd => hI e.on (by have := (hdep' e he hbd).1; omega) (hdep' e he hbd).2) (fun t => eval_fill a0 t ops vs) hvl hT
          have hnext : ∀ (a' : Act) (w' : World), QOne Q Fact w i ops[i] (fillAll a0 ops vs) .normal a' w' → wpAny P .any ops.toArray Q fuel (listed.setIfInBounds i true) a' w' := by
            rintro a' w' ⟨v, rfl, hb', hv⟩
            rw [fillAll_set a0 ops vs i ops[i] v hdis ho (by omega)]
            refine ih _ (vs.set i v) w' (by simpa using hs) (by simpa using hvl) ?_ ?_ (hb.trans (hb'.mono hb.size)) ?_ ?_ ?_
            · have := unl_set listed.toList i hl'
              rw [Array.toList_setIfInBounds]; omega
            · intro t h1 h2
              rw [Array.getD_eq_getD_getElem?, Array.getElem?_setIfInBounds, if_neg (by omega), ← Array.getD_eq_getD_getElem?]
              exact ht t h1 h2
            · intro j hj hlj
              by_cases e : j = i
              · subst e
                rw [List.getD_eq_getElem?_getD, List.getElem?_set_self (by omega)]
                exact hv
              · rw [List.getD_eq_getElem?_getD, List.getElem?_set_ne (by omega), ← List.getD_eq_getElem?_getD]
                refine hF.mono _ _ _ _ (hI j hj ?_) hb'
                rwa [Array.getD_eq_getD_getElem?, Array.getElem?_setIfInBounds, if_neg (by omega), ← Array.getD_eq_getD_getElem?] at hlj
            · have up : ∀ q, listed.getD q true = true → (listed.setIfInBounds i true).getD q true = true := by
                intro q hq
                by_cases e : q = i
                · subst e
                  by_cases hlt : q < listed.size <;> simp [Array.getD_eq_getD_getElem?, hlt]
                · rwa [Array.getD_eq_getD_getElem?, Array.getElem?_setIfInBounds, if_neg (by omega), ← Array.getD_eq_getD_getElem?]
              intro j o hoj hlj e he hbd
              apply up
              by_cases hji : j = i
              · subst hji
                rw [ho] at hoj
                injection hoj with hoj
                subst hoj
                exact (hdep' e he hbd).2
              · rw [Array.getD_eq_getD_getElem?, Array.getElem?_setIfInBounds, if_neg (by omega), ← Array.getD_eq_getD_getElem?] at hlj
                exact hcl j o hoj hlj e he hbd
            · intro t h1
              rw [List.getD_eq_getElem?_getD, List.getElem?_set_ne (by omega), ← List.getD_eq_getElem?_getD]
              exact hT t h1
          unfold wpOp
          rw [hoA]
          simp only
          unfold wpList at H
          split
          · rename_i hw
            rw [if_pos hw] at H
            have conv : ∀ {K : Act → World → Prop}, (ops[i]).wp P (fillAll a0 ops vs) w K (QOne Q Fact w i ops[i] (fillAll a0 ops vs)) → (ops[i]).wp P (fillAll a0 ops vs) w K Q := by
              intro K hh
              unfold Oper.wp at *
              generalize (execOp (fillAll a0 ops vs).eval ops[i]).run P w = r at *
              cases r with
              | ok n w' =>
                cases n <;> simp only [Oper.upon] at hh ⊢ <;>
                  first
                    | exact hh
                    | (refine Calls.mono hh (fun e w'' he => ?_)
                       cases e with
                       | returned v => exact he
                       | panicked c => exact he
                       | outgrown =>
                         obtain ⟨a1, w1, hq⟩ := he
                         exact ⟨a1, w1, hq⟩)
              | halt x w' => cases x <;> simp only [Oper.upon] at hh ⊢ <;> exact hh
            rcases H with H | ⟨hasks, a1, w1, hq⟩
            · left
              refine conv (Oper.wp_mono (fun a w h => ?_) H)
              exact hnext _ _ h
            · right
              exact ⟨hasks, a1, w1, hq⟩
          · rename_i hw
            rw [if_neg hw] at H
            exact hnext _ _ H
  have hrep : unl (Array.replicate ops.toArray.size false).toList = ops.toArray.size := by
    simp [unl]
  have := key ops.toArray.size (Array.replicate ops.toArray.size false) (origs a0 ops) w0.drew (by simp) (by simp [origs]) hrep (fun t h1 h2 => by simp [h2]) (RowKit.Below.refl _ _).drew (fun j hj h => by simp [hj] at h) (fun j o hoj h => by have := (List.getElem?_eq_some_iff.1 hoj).1; simp [this] at h) (fun t h => rfl)
  rwa [fillAll_origs] at this
end Go.Mem
end
