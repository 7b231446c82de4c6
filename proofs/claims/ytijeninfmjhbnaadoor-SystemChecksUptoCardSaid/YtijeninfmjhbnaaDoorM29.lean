/- Lemmas for the law SystemChecks: FClone, RegGrow, WFit. No conditions. -/
import Derived.Test.YtijeninfmjhbnaaDoorM28
import Derived.Test.YtijeninfmjhbnaaDoorM07
import Derived.Test.YtijeninfmjhbnaaDoorM26
import Derived.Test.YtijeninfmjhbnaaDoorM27
import Derived.Test.YtijeninfmjhbnaaDoorM10
/- slices.Clone at []api.Field. -/
section
namespace Go.Proofs.YtijeninfmjhbnaaDoor
open Go.ChangeShapes Go.WideShapes Go.ChangeAt Go.RowKit Go.Nm Go.Mem
set_option linter.unusedVariables false
/-- the clone of fields, in new memory -/
def FClonePost (l : List FieldV) (n : Nat) (w : World) (e : Ending) (w' : World) : Prop := ∃ a c, e = .returned (.slice a n c) ∧ n ≤ c ∧ c ≤ 9223372036854775807 ∧ Up w.heap.size (fun w => SlAt 3 FieldAt w a l) w' ∧ Below w.heap.size w w'
theorem flds_up {B : Nat} {w w2 : World} {a : Option Addr} {l : List FieldV} (hs : SameUp B w w2) (hp : ∀ x, a = some x → B ≤ x.block) (h : SlAt 3 FieldAt w a l) : SlAt 3 FieldAt w2 a l := fun h0 => by
  obtain ⟨x, e, hx, hi⟩ := h h0
  have hB := hp x e
  refine ⟨x, e, Nat.lt_of_lt_of_le hx hs.1, fun i hl => ?_⟩
  obtain ⟨k0, k1, k2, k3⟩ := hi i hl
  exact ⟨cell_up hs (by rw [block_of_add]; exact hB) k0, cell_up hs (by simp only [block_of_add]; exact hB) k1, cell_up hs (by simp only [block_of_add]; exact hB) k2, k3⟩
end Go.Proofs.YtijeninfmjhbnaaDoor
end
/- Drawn regions that append to a row of the call's own: the relations of worlds. -/
section
namespace Go.Proofs.YtijeninfmjhbnaaDoor
open Go.ChangeShapes Go.WideShapes Go.ChangeAt Go.RowKit Go.Nm Go.Mem
set_option linter.unusedVariables false
/-- what operation i does: the append (q) writes its row, the others only lay blocks -/
def RG (q : Nat) (row : Option Nat) (i : Nat) (a b : World) : Prop := (i ≠ q → Below a.heap.size a b) ∧ (i = q → a.grownBy b row)
theorem RG.same (q : Nat) (row : Option Nat) (i : Nat) (w : World) : RG q row i w w := ⟨fun _ => Below.refl _ _, fun _ => World.grownBy.refl _ _⟩
theorem RG.below {q : Nat} {row : Option Nat} {i : Nat} {a b : World} (hi : i ≠ q) (hb : Below a.heap.size a b) : RG q row i a b := ⟨fun _ => hb, fun h => absurd h hi⟩
theorem RG.at_ {q : Nat} {row : Option Nat} {i : Nat} {a b : World} (hi : i = q) (hg : a.grownBy b row) : RG q row i a b := ⟨fun h => absurd hi h, fun _ => hg⟩
theorem RG.gb {q : Nat} {row : Option Nat} {i : Nat} {a b : World} (h : RG q row i a b) : a.grownBy b row := by
  by_cases hi : i = q
  · exact h.2 hi
  · have hb := h.1 hi
    exact ⟨hb.os, hb.tape, hb.output, hb.size, fun k hk _ => hb.block k hk⟩
theorem RG.sub {q : Nat} {row : Option Nat} : ∀ i a b, RG q row i a b → a.grownBy b row := fun _ _ _ h => h.gb
theorem gb_drew (row : Option Nat) (w : World) : w.grownBy w.drew row := ⟨rfl, rfl, rfl, Nat.le_refl _, fun k _ _ => rfl⟩
theorem cells_gbo {w w' : World} {g : Nat} {zs : List Value} {row : Option Nat} (h : CellsAt w (some ⟨g, 0, none⟩) zs) (hg : w.grownBy w' row) (hne : some g ≠ row) : CellsAt w' (some ⟨g, 0, none⟩) zs := fun h0 => by
  obtain ⟨x, e, hx, hc⟩ := h h0
  injection e with e
  subst e
  exact ⟨_, rfl, Nat.lt_of_lt_of_le hx hg.size, fun j u hu => World.grownBy.cell hg (hc j u hu) (by rw [block_of_add]; exact hne)⟩
def EKind (w : World) (cs : List Value) (y : KindV) : Prop := ∃ a cap, cs = [.string y.name, .slice a y.fields.length cap] ∧ y.name.size ≤ 9223372036854775807 ∧ y.fields.length ≤ cap ∧ cap ≤ 9223372036854775807 ∧ SlAt 3 FieldAt w a y.fields
theorem EKind.at (w : World) (g q : Nat) (cs : List Value) (y : KindV) (h : EKind w cs y) (hc : ∀ i u, cs[i]? = some u → w.cell? ⟨g, q + i, none⟩ = some u) : KindAt w ⟨g, q, none⟩ y := by
  obtain ⟨a, cap, rfl, h1, h2, h3, hi⟩ := h
  exact ⟨hc 0 _ rfl, h1, a, cap, hc 1 _ rfl, h2, h3, hi⟩
def EItem (w : World) (cs : List Value) (y : ItemV) : Prop := ∃ a cap, cs = [.int .i64 y.n, .int .i64 y.gen, .slice a y.comps.length cap] ∧ SlAt 2 CompAt w a y.comps
theorem EItem.at (w : World) (g q : Nat) (cs : List Value) (y : ItemV) (h : EItem w cs y) (hc : ∀ i u, cs[i]? = some u → w.cell? ⟨g, q + i, none⟩ = some u) : ItemAt w ⟨g, q, none⟩ y := by
  obtain ⟨a, cap, rfl, hi⟩ := h
  exact ⟨hc 0 _ rfl, hc 1 _ rfl, a, cap, hc 2 _ rfl, hi⟩
section
variable {P : Program} {ops : Array Oper} {o : Oper} {F : Act} {w : World} {Q : Exit → Act → World → Prop}
theorem rg_slice_kind (t e : TypeId) (x0 : Operand) (hgd : o.guard = none) (ho : o.op = .buildSlice t 1 #[(0, x0)]) (s : ByteArray) (a : Option Addr) (n c : Nat) (h0 : F.eval x0 = .agg #[.string s, .slice a n c])
    (hu : P.underlying t = some (.slice e)) (hi : (P.info? e).map (fun i => (i.zero, i.size)) = some (some (.agg #[.string ByteArray.empty, .slice none 0 0]), 2)) (h : Q .normal (F.put o.dst (.slice (some ⟨w.heap.size, 0, none⟩) 1 1)) (w.alloc (.cells #[.string s, .slice a n c] e (0, 0)))) : wpList P ops Q [o] F w := by
  obtain ⟨i, hi2, hzz⟩ := Option.map_eq_some_iff.1 hi
  simp only [Prod.mk.injEq] at hzz
  refine wpList_plain hgd fun K hK => ?_
  refine wp_buildSlice t e 1 _ ho #[.string s, .slice a n c] i (.agg #[.string ByteArray.empty, .slice none 0 0]) hu hi2 hzz.1 (by rw [hzz.2]; decide) (by rw [hzz.2]; decide) ?_ (hK _ _ h)
  rw [hzz.2]
  simp only [List.map_toArray, List.map_cons, List.map_nil, h0]
  have hr : Array.range 2 = #[0, 1] := by decide
  simp [Instr.fill, Value.cells, hr]
theorem rg_slice_item (t e : TypeId) (x0 : Operand) (hgd : o.guard = none) (ho : o.op = .buildSlice t 1 #[(0, x0)]) (p g : Int) (a : Option Addr) (n c : Nat) (h0 : F.eval x0 = .agg #[.int .i64 p, .int .i64 g, .slice a n c])
    (hu : P.underlying t = some (.slice e)) (hi : (P.info? e).map (fun i => (i.zero, i.size)) = some (some (.agg #[.int .i64 0, .int .i64 0, .slice none 0 0]), 3)) (h : Q .normal (F.put o.dst (.slice (some ⟨w.heap.size, 0, none⟩) 1 1)) (w.alloc (.cells #[.int .i64 p, .int .i64 g, .slice a n c] e (0, 0)))) : wpList P ops Q [o] F w := by
  obtain ⟨i, hi2, hzz⟩ := Option.map_eq_some_iff.1 hi
  simp only [Prod.mk.injEq] at hzz
  refine wpList_plain hgd fun K hK => ?_
  refine wp_buildSlice t e 1 _ ho #[.int .i64 p, .int .i64 g, .slice a n c] i (.agg #[.int .i64 0, .int .i64 0, .slice none 0 0]) hu hi2 hzz.1 (by rw [hzz.2]; decide) (by rw [hzz.2]; decide) ?_ (hK _ _ h)
  rw [hzz.2]
  simp only [List.map_toArray, List.map_cons, List.map_nil, h0]
  have hr : Array.range 3 = #[0, 1, 2] := by decide
  simp [Instr.fill, Value.cells, hr]
end
end Go.Proofs.YtijeninfmjhbnaaDoor
end
/- world.Fit. -/
section
namespace Go.Proofs.YtijeninfmjhbnaaDoor
open Go.ChangeShapes Go.WideShapes Go.ChangeAt Go.RowKit Go.Nm Go.Mem Go.Maps
set_option linter.unusedVariables false
def FitWR (KE RE : Int) (RM : Part) (W : World) (e : Ending) (w' : World) : Prop :=
  ((KE ≠ 0 ∧ e = .returned (.tuple #[.slice none 0 0, .int .i64 KE])) ∨ (KE = 0 ∧ RE ≠ 0 ∧ e = .returned (.tuple #[.slice none 0 0, .int .i64 RE])) ∨
   (KE = 0 ∧ RE = 0 ∧ ∃ a c, e = .returned (.tuple #[.slice a (listed RM).length c, .int .i64 0]) ∧ Up W.heap.size (fun w => SlAt 2 CompAt w a (listed RM)) w')) ∧ Below W.heap.size W w'
theorem FitWR.one {KE RE : Int} {RM : Part} {W w' : World} {e : Ending} (h : KE ≠ 0) (he : e = .returned (.tuple #[.slice none 0 0, .int .i64 KE])) (hb : Below W.heap.size W w') : FitWR KE RE RM W e w' := ⟨Or.inl ⟨h, he⟩, hb⟩
theorem FitWR.two {RE E : Int} {RM : Part} {W w' : World} {e : Ending} (h : E = RE) (h0 : E ≠ 0) (he : e = .returned (.tuple #[.slice none 0 0, .int .i64 E])) (hb : Below W.heap.size W w') : FitWR 0 RE RM W e w' := ⟨Or.inr (Or.inl ⟨rfl, by rw [← h]; exact h0, by rw [← h]; exact he⟩), hb⟩
theorem FitWR.three {RM : Part} {W w' : World} {e : Ending} (a : Option Addr) (c : Nat) (he : e = .returned (.tuple #[.slice a (listed RM).length c, .int .i64 0])) (hu : Up W.heap.size (fun w => SlAt 2 CompAt w a (listed RM)) w') (hb : Below W.heap.size W w') : FitWR 0 0 RM W e w' := ⟨Or.inr (Or.inr ⟨rfl, rfl, a, c, he, hu⟩), hb⟩
def FitWPost (ks : List KindV) (l : List CompV) (W : World) (e : Ending) (w' : World) : Prop := FitWR (kindsE ks) (fitAllE ks l) (fitAllM ks l) W e w'
/-- what the sort does with a grown list of components -/
def SortsC (g : Nat) : Prop := ∀ (W : World) (B : Nat) (v : Value) (l : List CompV), GrowL EComp B 87 2 W v l → B ≤ W.heap.size → l.length ≤ 1048576 →
  Calls Tryd.prog 46 #[v, .func (.func g) #[] #[]] W fun e w' => e = .returned (.tuple #[]) ∧ (∃ l', l'.Perm l ∧ l'.Pairwise (fun x y => ¬ y.kind < x.kind) ∧ GrowL EComp B 87 2 w' v l') ∧ Below B W w'
def F_wf (wr B kn kc kb ko q nf cf nv cv : Nat) (av af : Option Addr) (nm : ByteArray) (E : Int) (K : KindV) (vals : List Int) (jq : Nat) (v : Value) (w : World) : Prop :=
  match jq with
  | 0 => v = .slice (some ⟨kb, ko, none⟩) kn kc
  | 1 => v = .pointer (some ⟨wr, 0, none⟩)
  | 2 => v = .int .i64 (q : Int)
  | 3 => v = .pointer (some ⟨kb, ko + q * 2, none⟩)
  | 4 => v = .agg #[.string nm, .slice af nf cf]
  | 5 => v = .pointer (some ⟨wr, 1, none⟩)
  | 6 => v = .slice av nv cv
  | 7 => FitTU B K vals v w
  | 8 => FitTU B K vals v w
  | 9 => FitSU B K vals v w
  | 10 => v = .int .i64 E
  | 11 => FitSU B K vals v w
  | 12 => v = .int .i64 E
  | _ => True
theorem F_wf_mono (wr B kn kc kb ko q nf cf nv cv : Nat) (av af : Option Addr) (nm : ByteArray) (E : Int) (K : KindV) (vals : List Int) : Facts (F_wf wr B kn kc kb ko q nf cf nv cv  av af  nm  E  K  vals ) := ⟨by
  intro jq v w w' h hb
  unfold F_wf at h ⊢
  split at h
  all_goals first
    | exact h
    | exact FitSU.below h hb
    | exact FitTU.below h hb
    | trivial⟩

set_option maxHeartbeats 16000000 in
set_option maxRecDepth 20000 in
theorem world_Fit (hsort : SortsC 47) (ks : List KindV) (l : List CompV) (ka a : Option Addr) (kn kc n ca : Nat) (hkn : ks.length = kn) (hn : l.length = n) (hk1 : kn ≤ 1048576) (h1 : n ≤ 1048576) (hca : n ≤ ca) (hkc : kn ≤ kc) (hkm : kc ≤ 9223372036854775807) (hvl : ∀ z ∈ l, z.vals.length ≤ 1048576) (W : World) (hzk : SlAt 2 KindAt W ka ks) (hz : SlAt 2 CompAt W a l) :
    Calls Tryd.prog 24 #[.slice ka kn kc, .slice a n ca] W (FitWPost ks l W) := by
  obtain ⟨KE, hKE⟩ : ∃ R, R = kindsE ks := ⟨_, rfl⟩
  obtain ⟨RE, hRE⟩ : ∃ R, R = fitAllE ks l := ⟨_, rfl⟩
  obtain ⟨RM, hRM⟩ : ∃ R, R = fitAllM ks l := ⟨_, rfl⟩
  have CK := kind_Check ks ka kn kc hkn (by omega) hkc hkm W hzk
  unfold FitWPost
  rw [← hRE, ← hRM, ← hKE]
  rw [← hKE] at CK
  have HCK := Lib.hid CK
  have HKE := Lib.hid hKE
  have HRE := Lib.hid hRE
  have HRM := Lib.hid hRM
  have HN := Lib.hid hkn
  have HM := Lib.hid hn
  have HZK := Lib.hid hzk
  have HZ := Lib.hid hz
  have HV := Lib.hid hvl
  have HSO := Lib.hid hsort
  clear hKE hRE hRM hkn hn hzk hz hvl CK hsort
  go_enter Tryd.func24, Tryd.ntmps24
  go_wp2_with fail
  refine HCK.out.mono ?_
  rintro e w1 ⟨rfl, hb1⟩
  have HB1 := Lib.hid hb1
  clear hb1 HCK
  by_cases hke : KE = 0
  · subst hke
    have t0 : ((0 : Int) != 0) = false := rfl
    go_wp2_with fail
    clear t0
    go_loopg [19, 7, 8, 9, 39, 10, 11] n (fun gk v19 v7 _ _ _ _ _ wx => ∃ (i : Nat) (F : Part), i ≤ n ∧ gk = n - i ∧ v19 = .int .i64 i ∧ fitGo ks (l.drop i) F = (RE, RM) ∧ (∀ k : Nat, (F k).isSome = hasK (l.take i) k) ∧ GrowL EComp W.heap.size 87 2 wx v7 (fitOut ks (l.take i)) ∧ Below W.heap.size W wx)
    case atStart => exact ⟨0, fun _ => none, Nat.zero_le _, rfl, rfl, by rw [HRE.out, HRM.out]; rfl, fun k => rfl, GrowL.nil _ _ _ _ _, HB1.out⟩
    case round =>
      obtain ⟨i, F, hi0, g2, rfl, hgo, hhas, hgr, hb⟩ := hrel
      have G2 := Lib.hid g2
      have HGO := Lib.hid hgo
      have HHAS := Lib.hid hhas
      have HGR := Lib.hid hgr
      have HB := Lib.hid hb
      clear g2 hgo hhas hgr hb
      by_cases hi : i < n
      · obtain ⟨x, rfl, _, _⟩ := HZ.out (by rw [HM.out]; omega)
        obtain ⟨xb, xo, rfl, av, cv, hcl, hiv⟩ := comp_cells (HZ.out.below CompAt.abides HB.out) i (by rw [HM.out]; exact hi)
        have hgo := HGO.out
        rw [List.drop_eq_getElem_cons (by rw [HM.out]; exact hi)] at hgo
        have htk := take_snocC l i (by rw [HM.out]; exact hi)
        obtain ⟨y, hy⟩ : ∃ y, y = l[i]'(by rw [HM.out]; exact hi) := ⟨_, rfl⟩
        have hyv := HV.out _ (List.getElem_mem (by rw [HM.out]; exact hi) : l[i]'(by rw [HM.out]; exact hi) ∈ l)
        rw [← hy] at hcl hiv hgo hyv htk
        rw [fitGo] at hgo
        obtain ⟨nv, hnv⟩ : ∃ nv, nv = y.vals.length := ⟨_, rfl⟩
        rw [← hnv] at hcl hyv
        obtain ⟨kq, hkq⟩ : ∃ kq, kq = y.kind := ⟨_, rfl⟩
        rw [← hkq] at hcl hgo
        have e0 := hcl.at 0 (by simp)
        have e1 := hcl.at 1 (by simp)
        simp only [List.getElem_cons_zero, List.getElem_cons_succ, Nat.add_zero] at e0 e1
        have hro := new_row wr #[.int .i64 kq, .slice av nv cv] 87
        have q0 := hro.at 0 (by simp)
        have q1 := hro.at 1 (by simp)
        simp only [List.getElem_cons_zero, List.getElem_cons_succ, Nat.zero_add] at q0 q1
        have hbA : Below wr.heap.size wr (wr.alloc (.cells #[.int .i64 kq, .slice av nv cv] 87 (0, 0))) := (Below.refl _ _).alloc (Nat.le_refl _) _
        have Q0 := Lib.hid q0
        have Q1 := Lib.hid q1
        have HNV := Lib.hid hnv
        have HKQ := Lib.hid hkq
        have HTK := Lib.hid htk
        have HIV := Lib.hid (hiv.below hbA)
        have HBA := Lib.hid hbA
        have HGO2 := Lib.hid hgo
        have HYV := Lib.hid hyv
        have HCF := Lib.hid (con_comps (l.take i) (some ⟨xb, xo, none⟩) i ca kq wr.heap.size (by rw [List.length_take, HM.out]; omega) (by omega) (wr.alloc (.cells #[.int .i64 kq, .slice av nv cv] 87 (0, 0))) (sl_take (HZ.out.below CompAt.abides (bt HB.out hbA)) i) q0)
        have HNN := HN.out
        clear hy hkq hnv hcl hiv hro hbA hgo hyv htk
        by_cases hA : kq < 0
        · have hres := HGO2.out
          rw [if_pos (Or.inl hA)] at hres
          injection hres with hr1 hr2
          have HR1 := Lib.hid hr1
          clear hr1 hr2
          go_wp2_with fail
          go_ret2
          exact FitWR.two HR1.out (by decide) rfl (bt HB.out HBA.out)
        · by_cases hB : (kn : Int) ≤ kq
          · have hres := HGO2.out
            rw [if_pos (Or.inr (by rw [HNN]; exact hB))] at hres
            injection hres with hr1 hr2
            have HR1 := Lib.hid hr1
            clear hr1 hr2
            go_wp2_with fail
            go_ret2
            exact FitWR.two HR1.out (by decide) rfl (bt HB.out HBA.out)
          · obtain ⟨q, rfl⟩ : ∃ q : Nat, kq = (q : Int) := ⟨kq.toNat, by omega⟩
            have hqn : q < kn := by omega
            have hres := HGO2.out
            rw [if_neg (fun h => by rcases h with h | h; exact hA h; rw [HNN] at h; exact hB h), Int.toNat_natCast] at hres
            obtain ⟨z, rfl, _, _⟩ := HZK.out (by rw [HNN]; omega)
            obtain ⟨kb, ko, rfl, af, cf, hck, hnm, hnc, hcm, hfl⟩ := kind_cells (HZK.out.below KindAt.abides (bt HB.out HBA.out)) q (by rw [HNN]; exact hqn)
            have hgq : ks.getD q default = ks[q]'(by rw [HNN]; exact hqn) := by rw [List.getD_eq_getElem?_getD, List.getElem?_eq_getElem (by rw [HNN]; exact hqn)]; rfl
            obtain ⟨K, hK⟩ : ∃ K, K = ks[q]'(by rw [HNN]; exact hqn) := ⟨_, rfl⟩
            rw [← hK] at hck hnm hnc hfl hgq
            rw [hgq] at hres
            obtain ⟨nf, hnf⟩ : ∃ nf, nf = K.fields.length := ⟨_, rfl⟩
            rw [← hnf] at hck hnc
            have HFC := Lib.hid (show fitC ks y = ⟨(q : Int), fitL K.fields y.vals⟩ by unfold fitC; rw [← HKQ.out, Int.toNat_natCast, hgq])
            have HFL := Lib.hid (show SlAt 3 FieldAt _ af K.fields ∧ K.name.size ≤ 9223372036854775807 ∧ nf ≤ cf ∧ cf ≤ 9223372036854775807 ∧ nf = K.fields.length from ⟨hfl, hnm, hnc, hcm, hnf⟩)
            obtain ⟨nm, hnm2⟩ : ∃ nm, nm = K.name := ⟨_, rfl⟩
            rw [← hnm2] at hck
            have HNM := Lib.hid hnm2
            have HCK := Lib.hid hck
            have HRES := Lib.hid hres
            clear hres hgq hK hnf hnm2 hck hnm hnc hcm hfl
            go_wp2_with fail
            refine HCF.out.mono ?_
            rintro e w5 ⟨rfl, hb5⟩
            have HA5 := Lib.hid (bt HBA.out hb5)
            have HB5 := Lib.hid hb5
            have Q05 := Lib.hid (cell_abides Q0.out hb5)
            have Q15 := Lib.hid (cell_abides Q1.out hb5)
            clear hb5 q0 q1 HCF e0 e1
            obtain ⟨HH, hHH⟩ : ∃ H, H = hasK (l.take i) (q : Int) := ⟨_, rfl⟩
            have hsq := HHAS.out q
            rw [← hHH] at hsq ⊢
            have HSQ := Lib.hid hsq
            clear hHH hsq
            cases HH with
            | true =>
              have hr := HRES.out
              rw [if_pos HSQ.out] at hr
              injection hr with hr1 hr2
              have HR1 := Lib.hid hr1
              clear hr1 hr2
              go_wp2_with fail
              go_ret2
              exact FitWR.two HR1.out (by decide) rfl (bt HB.out HA5.out)
            | false =>
              have hr := HRES.out
              rw [if_neg (by rw [HSQ.out]; simp)] at hr
              obtain ⟨E, hE⟩ : ∃ E, E = fitE K y.vals := ⟨_, rfl⟩
              rw [← hE] at hr
              have HR := Lib.hid hr
              have HE := Lib.hid hE
              have HCC := Lib.hid (fun w' (hb : Below w5.heap.size w5 w') => kind_FitU K af nf cf y.vals av nv cv HFL.out.2.2.2.2.symm HNV.out.symm (by have := HYV.out; omega) HFL.out.2.1 HFL.out.2.2.1 HFL.out.2.2.2.1 w' (SlAt.below FieldAt.abides HFL.out.1 (bt HB5.out hb)) (IntsAt.below HIV.out (bt HB5.out hb)))
              rw [← HNM.out] at HCC
              have HCK5 := Lib.hid (HCK.out.below HB5.out)
              clear hr hE
              go_wp2_with fail
              refine wp_region_facts_t rfl 13 (by kernel_rfl) (F_wf wr.heap.size w5.heap.size kn kc kb ko q nf cf nv cv av af nm E K y.vals) (F_wf_mono wr.heap.size w5.heap.size kn kc kb ko q nf cf nv cv av af nm E K y.vals) ?_ ?_
              · refine ⟨?_, ?_, ?_, ?_, ?_, ?_, ?_, ?_, ?_, ?_, ?_, ?_, ?_, trivial⟩
                · intro vs w' F hb hd hF hl hT
                  have e := (hF 0).trans (look_out _ 0 _ _ (by kernel_rfl))
                  exact one_move _ rfl (by first | exact Or.inl rfl | exact Or.inr rfl) ⟨_, rfl, Below.refl _ _, e⟩
                · intro vs w' F hb hd hF hl hT
                  have e := (hF 9).trans (look_out _ 9 _ _ (by kernel_rfl))
                  exact one_field _ _ _ rfl rfl _ _ e (0) (fun w => by kernel_rfl) ⟨_, rfl, Below.refl _ _, rfl⟩
                · intro vs w' F hb hd hF hl hT
                  have e := ((hF 41).trans (look_at _ 41 1 _ _ (by kernel_rfl) (by kernel_rfl) hl)).trans (dep_of (Fact := F_wf wr.heap.size w5.heap.size kn kc kb ko q nf cf nv cv av af nm E K y.vals) hd 1 (by kernel_rfl))
                  exact one_load _ _ rfl rfl _ _ e (cell_abides Q05.out hb) (by kernel_rfl) ⟨_, rfl, Below.refl _ _, rfl⟩
                · intro vs w' F hb hd hF hl hT
                  have ex := ((hF 40).trans (look_at _ 40 0 _ _ (by kernel_rfl) (by kernel_rfl) hl)).trans (dep_of (Fact := F_wf wr.heap.size w5.heap.size kn kc kb ko q nf cf nv cv av af nm E K y.vals) hd 0 (by kernel_rfl))
                  have ey := ((hF 42).trans (look_at _ 42 2 _ _ (by kernel_rfl) (by kernel_rfl) hl)).trans (dep_of (Fact := F_wf wr.heap.size w5.heap.size kn kc kb ko q nf cf nv cv av af nm E K y.vals) hd 2 (by kernel_rfl))
                  exact one_index 22 _ _ rfl rfl (.slice (some ⟨kb, ko, none⟩) kn kc) (.int .i64 (q : Int)) (.pointer (some ⟨kb, ko + q * 2, none⟩)) ex ey (fun w => rg_idx Tryd.underlying22 (show (Tryd.prog.info? 43).map (·.size) = some 2 by kernel_rfl) (kb) (ko) (kn) (kc) (q) (by omega) w) ⟨_, rfl, Below.refl _ _, rfl⟩
                · intro vs w' F hb hd hF hl hT
                  have e := ((hF 43).trans (look_at _ 43 3 _ _ (by kernel_rfl) (by kernel_rfl) hl)).trans (dep_of (Fact := F_wf wr.heap.size w5.heap.size kn kc kb ko q nf cf nv cv av af nm E K y.vals) hd 3 (by kernel_rfl))
                  exact rg_load 43 _ rfl rfl (kb) (ko + q * 2) [.string nm, .slice af nf cf] e (HCK5.out.below hb) _ Tryd.underlying43 rfl (by kernel_rfl) ⟨_, rfl, Below.refl _ _, rfl⟩
                · intro vs w' F hb hd hF hl hT
                  have e := (hF 9).trans (look_out _ 9 _ _ (by kernel_rfl))
                  exact one_field _ _ _ rfl rfl _ _ e (1) (fun w => by kernel_rfl) ⟨_, rfl, Below.refl _ _, rfl⟩
                · intro vs w' F hb hd hF hl hT
                  have e := ((hF 45).trans (look_at _ 45 5 _ _ (by kernel_rfl) (by kernel_rfl) hl)).trans (dep_of (Fact := F_wf wr.heap.size w5.heap.size kn kc kb ko q nf cf nv cv av af nm E K y.vals) hd 5 (by kernel_rfl))
                  exact one_load _ _ rfl rfl _ _ e (cell_abides Q15.out hb) (by kernel_rfl) ⟨_, rfl, Below.refl _ _, rfl⟩
                · intro vs w' F hb hd hF hl hT
                  have e1 := (((hF 44).trans (look_at _ 44 4 _ _ (by kernel_rfl) (by kernel_rfl) hl)).trans (dep_of (Fact := F_wf wr.heap.size w5.heap.size kn kc kb ko q nf cf nv cv av af nm E K y.vals) hd 4 (by kernel_rfl)))
                  have e2 := (((hF 46).trans (look_at _ 46 6 _ _ (by kernel_rfl) (by kernel_rfl) hl)).trans (dep_of (Fact := F_wf wr.heap.size w5.heap.size kn kc kb ko q nf cf nv cv av af nm E K y.vals) hd 6 (by kernel_rfl)))
                  refine one_call _ _ rfl rfl (enters_of Tryd.func45 (by kernel_rfl) rfl) #[.agg #[.string nm, .slice af nf cf], .slice av nv cv] (eval2 e1 e2) ?_
                  refine (HCC.out w' hb).mono ?_
                  intro e3 w2 hp
                  have hb2 := hp.2.2
                  obtain ⟨v, rfl, ht⟩ := FitPostU.tuple (B := w5.heap.size) hp hb.size
                  exact ⟨_, rfl, _, rfl, hb2, ht⟩
                · intro vs w' F hb hd hF hl hT
                  have e := ((hF 47).trans (look_at _ 47 7 _ _ (by kernel_rfl) (by kernel_rfl) hl))
                  have d := (dep_of (Fact := F_wf wr.heap.size w5.heap.size kn kc kb ko q nf cf nv cv av af nm E K y.vals) hd 7 (by kernel_rfl))
                  rw [← e] at d
                  exact one_move _ rfl (by first | exact Or.inl rfl | exact Or.inr rfl) ⟨_, rfl, Below.refl _ _, d⟩
                · intro vs w' F hb hd hF hl hT
                  have e := ((hF 39).trans (look_at _ 39 8 _ _ (by kernel_rfl) (by kernel_rfl) hl))
                  obtain ⟨u, hu, hs⟩ := (dep_of (Fact := F_wf wr.heap.size w5.heap.size kn kc kb ko q nf cf nv cv av af nm E K y.vals) hd 8 (by kernel_rfl))
                  exact rg_extract _ _ rfl rfl _ u (e.trans hu) (fun w => rfl) ⟨_, rfl, Below.refl _ _, hs⟩
                · intro vs w' F hb hd hF hl hT
                  have e := ((hF 39).trans (look_at _ 39 8 _ _ (by kernel_rfl) (by kernel_rfl) hl))
                  obtain ⟨u, hu, hs⟩ := (dep_of (Fact := F_wf wr.heap.size w5.heap.size kn kc kb ko q nf cf nv cv av af nm E K y.vals) hd 8 (by kernel_rfl))
                  rw [← HE.out] at hu
                  exact rg_extract _ _ rfl rfl _ (.int .i64 E) (e.trans hu) (fun w => rfl) ⟨_, rfl, Below.refl _ _, rfl⟩
                · intro vs w' F hb hd hF hl hT
                  have e := ((hF 48).trans (look_at _ 48 9 _ _ (by kernel_rfl) (by kernel_rfl) hl))
                  have d := (dep_of (Fact := F_wf wr.heap.size w5.heap.size kn kc kb ko q nf cf nv cv av af nm E K y.vals) hd 9 (by kernel_rfl))
                  rw [← e] at d
                  exact one_move _ rfl (by first | exact Or.inl rfl | exact Or.inr rfl) ⟨_, rfl, Below.refl _ _, d⟩
                · intro vs w' F hb hd hF hl hT
                  have e := ((hF 49).trans (look_at _ 49 10 _ _ (by kernel_rfl) (by kernel_rfl) hl)).trans (dep_of (Fact := F_wf wr.heap.size w5.heap.size kn kc kb ko q nf cf nv cv av af nm E K y.vals) hd 10 (by kernel_rfl))
                  exact one_move _ rfl (by first | exact Or.inl rfl | exact Or.inr rfl) ⟨_, rfl, Below.refl _ _, e⟩
              · intro vs8 W8 hl hb hI
                have i11 : FitSU w5.heap.size K y.vals (vs8.getD 11 undef) W8 := hI 11 (by omega)
                have i12 : vs8.getD 12 undef = .int .i64 E := hI 12 (by omega)
                obtain ⟨x0, x1, x2, x3, x4, x5, x6, x7, x8, x9, x10, x11, x12, hvs⟩ := list13 hl
                subst hvs
                replace i11 : FitSU w5.heap.size K y.vals x11 W8 := i11
                replace i12 : x12 = .int .i64 E := i12
                subst i12
                have HS := Lib.hid i11
                have HB8 := Lib.hid hb
                clear i11 hI hl hb HCC HCK5
                simp only [fillAll, Act.put, List.setIfInBounds_toArray, List.set_cons_succ, List.set_cons_zero]
                show wpList _ _ _ [] _ _
                by_cases he : E = 0
                · subst he
                  obtain ⟨fa, fc, hfe, hfi, hfx⟩ := HS.out.2 HE.out.symm
                  rw [← HNV.out] at hfe
                  subst hfe
                  have hlen := fitL_len HE.out.symm
                  rw [← HNV.out] at hlen
                  have c0 := cell_abides Q05.out HB8.out
                  have t0 : ((0 : Int) != 0) = false := rfl
                  obtain ⟨css, hcss⟩ := HGR.out
                  have HCSS := Lib.hid hcss
                  obtain ⟨nl, hnl⟩ : ∃ nl, nl = (fitOut ks (l.take i)).length := ⟨_, rfl⟩
                  have hnl2 : nl ≤ i := by rw [hnl]; unfold fitOut; rw [List.length_map, List.length_take]; omega
                  have HNN2 := Lib.hid hnl
                  have hba := (Below.refl W8.heap.size W8).alloc (Nat.le_refl _) (.cells #[.int .i64 (q : Int), .slice fa nv fc] 87 (0, 0))
                  have hb8 : Below wr.heap.size wr W8 := bt HA5.out HB8.out
                  have hbw : Below wr.heap.size wr (W8.alloc (.cells #[.int .i64 (q : Int), .slice fa nv fc] 87 (0, 0))) := bt hb8 hba
                  have hro := new_row W8 #[.int .i64 (q : Int), .slice fa nv fc] 87
                  have hcl : CellsAt (W8.alloc (.cells #[.int .i64 (q : Int), .slice fa nv fc] 87 (0, 0))) (some ⟨W8.heap.size, 0, none⟩) [.int .i64 (q : Int), .slice fa nv fc] := fun _ => ⟨_, rfl, by simp, fun j u hu => by
                    have := hro j u hu
                    rw [add_zero_block]
                    simpa using this⟩
                  have hownC := own_bel hcss.2.2.1 hbw
                  rw [← hnl] at hownC
                  have hbs2 : W.heap.size ≤ (W8.alloc (.cells #[.int .i64 (q : Int), .slice fa nv fc] 87 (0, 0))).heap.size := Nat.le_trans HB.out.size hbw.size
                  have hsz5 : wr.heap.size ≤ w5.heap.size := HA5.out.size
                  have hy : Win wr.heap.size (W8.alloc (.cells #[.int .i64 (q : Int), .slice fa nv fc] 87 (0, 0))).heap.size (fun w => EComp w [.int .i64 (q : Int), .slice fa nv fc] ⟨(q : Int), fitL K.fields y.vals⟩) (W8.alloc (.cells #[.int .i64 (q : Int), .slice fa nv fc] 87 (0, 0))) :=
                    Win.ofUp (Up.below (fun w2 hs => ⟨fa, fc, by rw [hlen], ints_up hs (fun x hx => Nat.le_trans hsz5 (hfx x hx)) hfi⟩) hba)
                  have HY := Lib.hid hy
                  have HBW := Lib.hid hbw
                  clear hy hro hfi hfx hlen hbw hb8 hba hcss hnl hsz5
                  go_wp2_with (at_builtin; go_must (refine wpList_append_cells rfl _ _ 25 rfl W.heap.size 87 (.agg #[.int .i64 0, .slice none 0 0]) 2 32 Tryd.underlying25 (by kernel_rfl) rfl (by decide) _ nl css.flatten rfl hownC (some ⟨W8.heap.size, 0, none⟩) 1 1 [.int .i64 (q : Int), .slice fa nv fc] rfl rfl hcl (by simp [Value.oneCell']) (by unfold maxLen; omega) (by omega) hbs2 ?_); intro v3 w3 hown3 hg3 hat3; have HO3 := Lib.hid hown3; have HG3 := Lib.hid hg3; have HA3 := Lib.hid hat3; clear hown3 hg3 hat3)
                  have HNEW := Lib.hid (show GrowL EComp W.heap.size 87 2 w3 v3 (fitOut ks (l.take (i + 1))) by
                    rw [HTK.out]
                    unfold fitOut
                    rw [List.map_append, List.map_cons, List.map_nil, HFC.out]
                    exact GrowL.push2 HGR.out HB.out.size HBW.out [.int .i64 (q : Int), .slice fa nv fc] ⟨(q : Int), fitL K.fields y.vals⟩ rfl HY.out HCSS.out (by have := HO3.out; rw [HNN2.out] at this; exact this) HG3.out HA3.out)
                  have HB3 := Lib.hid ((HB.out.trans (HBW.out.mono HB.out.size)).grown HG3.out (HB.out.trans (HBW.out.mono HB.out.size)).size (fun r h => (own_lt HCSS.out.2.2.1 r h).1))
                  have HR9 := Lib.hid (show fitGo ks (l.drop (i + 1)) (updF F q (fitL K.fields y.vals)) = (RE, RM) by have h := HR.out; rw [if_neg (by simp)] at h; exact h)
                  have HH9 := Lib.hid (show ∀ k : Nat, (updF F q (fitL K.fields y.vals) k).isSome = hasK (l.take (i + 1)) k by rw [HTK.out]; exact upd_has HHAS.out HKQ.out.symm)
                  clear hcl hownC hbs2 c0
                  go_roundg (n - (i + 1))
                  case measure => rw [G2.out]; omega
                  case rel => exact ⟨i + 1, _, hi, rfl, by go_num, HR9.out, HH9.out, HNEW.out, HB3.out⟩
                · have t0 : (E != 0) = true := by rw [bne_iff_ne]; exact he
                  have hr := HR.out
                  rw [if_pos he] at hr
                  injection hr with hr1 hr2
                  have HR1 := Lib.hid hr1
                  clear hr1 hr2
                  go_wp2
                  go_ret2
                  exact FitWR.two HR1.out he rfl (bt HB.out (bt HA5.out HB8.out))
      · obtain rfl : n = i := by omega
        have hgo := HGO.out
        rw [List.drop_of_length_le (by rw [HM.out]; exact Nat.le_refl _), fitGo] at hgo
        injection hgo with hr1 hr2
        have hgr := HGR.out
        rw [List.take_of_length_le (by rw [HM.out]; exact Nat.le_refl _)] at hgr
        have hlo : (fitOut ks l).length ≤ 1048576 := by unfold fitOut; rw [List.length_map, HM.out]; exact h1
        have HSC := Lib.hid (HSO.out wr W.heap.size u7 (fitOut ks l) hgr HB.out.size hlo)
        have HE0 := Lib.hid (show fitAllE ks l = 0 by rw [← HRE.out]; exact hr1.symm)
        have HK16 := Lib.hid (kindsE_len HKE.out.symm)
        subst hr1
        clear hr2 hgr hlo
        go_wp2_with fail
        refine HSC.out.mono ?_
        rintro e w9 ⟨rfl, ⟨l', hp, hs, hg⟩, hb9⟩
        obtain rfl := sorted_fit HK16.out HE0.out hp (hs.imp fun h => by omega)
        rw [← HRM.out] at hg
        obtain ⟨a9, c9, hv9, _, _⟩ := GrowL.slice hg
        have HUP := Lib.hid (GrowL.up EComp.at hg a9 c9 hv9)
        have HB9 := Lib.hid (HB.out.trans hb9)
        have HV9 := Lib.hid hv9
        clear hp hs hg hb9 hv9
        go_wp2
        go_ret2
        exact FitWR.three a9 c9 (by rw [HV9.out]; rfl) HUP.out HB9.out
  · have t0 : (KE != 0) = true := by rw [bne_iff_ne]; exact hke
    go_wp2
    go_ret2
    exact FitWR.one hke rfl HB1.out
end Go.Proofs.YtijeninfmjhbnaaDoor
end
