/- Lemmas for the law MigrateBack: MigOne4, MigOne5, MigOne6. No conditions. -/
import Derived.Test.YtijeninfmjhbnaaDoorM13
import Derived.Deep.DeepMust
import Derived.OwnWalk
import Derived.RegionTactic
import Derived.BigRegion
import Derived.ChangeAlike
/- migrate.one, for moves that are 4. By program (gen_migone.py). -/
section
namespace Go.Proofs.YtijeninfmjhbnaaDoor
open Go.ChangeShapes Go.WideShapes Go.ChangeAt Go.RowKit Go.Nm Go.Mem
set_option linter.unusedVariables false
set_option maxHeartbeats 8000000 in
set_option maxRecDepth 100000 in
theorem mig_one_4 (ks : List KindV) (ka : Option Addr) (n kc : Nat) (hn : ks.length = n) (h1 : n ≤ 1000000) (hv : ∀ k ∈ ks, k.fields.length ≤ 1000000) (y : MoveV) (a : Option Addr) (c : Nat) (W : World) (hz : SlAt 2 KindAt W ka ks) (hy : MvFine W y a c) (hwb : y.whole.fields.length ≤ 4398046510976) (hp : pE ks y = 0) (hd : y.do_ = 4) :
    Calls Tryd.prog 32 #[.slice ka n kc, .agg #[.int .i64 4, .string y.kind, .string y.field, .string y.name, .int .i64 y.value, .string y.new.name, .int .i64 y.new.bits, .int .i64 y.new.low, .string y.whole.name, .slice a y.whole.fields.length c]] W (OneT ks y W) := by
  obtain ⟨E2, hE2⟩ : ∃ e, e = oneE ks y := ⟨_, rfl⟩
  obtain ⟨K2, hK2⟩ : ∃ k, k = oneK ks y := ⟨_, rfl⟩
  have hek : E2 = kindsE K2 := by rw [hE2, hK2]; unfold oneE; rw [if_neg (by rw [hp]; simp)]
  have HEK := Lib.hid hek
  have HE2 := Lib.hid hE2
  have HK2 := Lib.hid hK2
  obtain ⟨q, hq⟩ : ∃ q : Nat, pI ks y = (q : Int) := ⟨(pI ks y).toNat, by have := pI_bound hp (by rw [hd]; decide); omega⟩
  have hqn : q < n := by have := pI_bound hp (by rw [hd]; decide); rw [hq, hn] at this; omega
  have HQN := Lib.hid hqn
  have HQI := Lib.hid hq
  obtain ⟨j, hj⟩ : ∃ j : Nat, pJ ks y = (j : Int) := ⟨(pJ ks y).toNat, by have := pJ_bound hp (by rw [hd]; decide); omega⟩
  have hjn : ∀ h : q < ks.length, j < (ks[q]'h).fields.length := fun h => by
    have := pJ_bound hp (by rw [hd]; decide)
    rw [hj, hq, Int.toNat_natCast, List.getD_eq_getElem?_getD, List.getElem?_eq_getElem h] at this
    simp only [Option.getD_some] at this
    omega
  have HJN := Lib.hid hjn
  have HJI := Lib.hid hj

  have hb0 := (Below.refl W.heap.size W).alloc (Nat.le_refl _) (.cells #[.int .i64 4, .string y.kind, .string y.field, .string y.name, .int .i64 y.value, .string y.new.name, .int .i64 y.new.bits, .int .i64 y.new.low, .string y.whole.name, .slice a y.whole.fields.length c] 45)
  have hrow := heap_alloc_new W (.cells #[.int .i64 4, .string y.kind, .string y.field, .string y.name, .int .i64 y.value, .string y.new.name, .int .i64 y.new.bits, .int .i64 y.new.low, .string y.whole.name, .slice a y.whole.fields.length c] 45)
  obtain ⟨w0, hw0⟩ : ∃ w, w = W.alloc (.cells #[.int .i64 4, .string y.kind, .string y.field, .string y.name, .int .i64 y.value, .string y.new.name, .int .i64 y.new.bits, .int .i64 y.new.low, .string y.whole.name, .slice a y.whole.fields.length c] 45) := ⟨_, rfl⟩
  rw [← hw0] at hb0 hrow
  have cP := mig_place ks ka n kc hn (by omega) (fun k hk => by have := hv k hk; omega) y a c w0 (hz.below KindAt.abides hb0)
  rw [hd, hp, hq, hj] at cP
  obtain ⟨nk, hnk⟩ : ∃ x, x = y.kind := ⟨_, rfl⟩
  obtain ⟨nf, hnf⟩ : ∃ x, x = y.field := ⟨_, rfl⟩
  obtain ⟨nm, hnm⟩ : ∃ x, x = y.name := ⟨_, rfl⟩
  obtain ⟨vv, hvv⟩ : ∃ x, x = y.value := ⟨_, rfl⟩
  obtain ⟨fn, hfn⟩ : ∃ x, x = y.new.name := ⟨_, rfl⟩
  obtain ⟨fb, hfb⟩ : ∃ x, x = y.new.bits := ⟨_, rfl⟩
  obtain ⟨fo, hfo⟩ : ∃ x, x = y.new.low := ⟨_, rfl⟩
  obtain ⟨wn, hwn⟩ : ∃ x, x = y.whole.name := ⟨_, rfl⟩
  obtain ⟨wl, hwl⟩ : ∃ x, x = y.whole.fields.length := ⟨_, rfl⟩
  rw [← hnk, ← hnf, ← hnm, ← hvv, ← hfn, ← hfb, ← hfo, ← hwn, ← hwl] at hrow hw0 cP ⊢
  rw [← hwl] at hwb
  obtain ⟨g, hg⟩ : ∃ g, g = W.heap.size := ⟨_, rfl⟩
  rw [← hg] at hrow
  have HB := Lib.hid hb0
  have HROW := Lib.hid hrow
  have HW0 := Lib.hid hw0
  have HG := Lib.hid hg
  have HN := Lib.hid hn
  have H1 := Lib.hid h1
  have HV := Lib.hid hv
  have HZ := Lib.hid hz
  have HY := Lib.hid hy
  have HD := Lib.hid hd
  have HNM := Lib.hid (And.intro hnm (And.intro hfn (And.intro hfb (And.intro hfo (And.intro hwn hwl)))))
  have HWB := Lib.hid hwb
  have CP := Lib.hid cP
  clear hek hE2 hK2 hp hb0 hrow hw0 hg hn h1 hv hz hy hd hnk hnf hnm hvv hfn hfb hfo hwn hwl hwb cP hqn hq hjn hj
  go_enter Tryd.func32, Tryd.ntmps32
  go_wp2_with fail
  rw [← HW0.out, ← HG.out]
  refine CP.out.mono ?_
  rintro e w1 ⟨rfl, hb1⟩
  replace HB := Lib.hid (bt HB.out hb1)
  replace HROW := Lib.hid (heap_below HROW.out hb1)
  have CK := Lib.hid (kind_CopyO ks ka n kc HN.out (by have := H1.out; omega) (fun k hk => by have := HV.out k hk; omega) w1 (HZ.out.below KindAt.abides HB.out))
  obtain ⟨G, hGG⟩ : ∃ G, G = w1.heap.size := ⟨_, rfl⟩
  rw [← hGG] at CK
  have HGB := Lib.hid (show W.heap.size < G by rw [hGG]; have := lt_of_heap HROW.out; rw [HG.out] at this; exact this)
  have HGG := Lib.hid hGG
  clear hb1 CP HW0 hGG
  go_wp2_with fail
  refine CK.out.mono ?_
  rintro e w2 ⟨⟨V, rfl, hown⟩, hb2⟩
  replace HB := Lib.hid (bt HB.out (by rw [← HGG.out]; exact hb2))
  replace HROW := Lib.hid (heap_below HROW.out (by rw [← HGG.out]; exact hb2))
  have HOWN := Lib.hid hown
  have HVL := Lib.hid (show V.length = n by rw [hown.len, HN.out])
  have HGT := Lib.hid (show G < w2.heap.size from (own_lt hown.row G rfl).2)
  have HGA := Lib.hid (show g < G by rw [HG.out]; exact HGB.out)
  have r0 := cell_of_row _ _ 0 _ _ _ HROW.out
  clear hb2 CK hown HGG
  have hqn2 := HQN.out
  have hqk : q < ks.length := by rw [HN.out]; exact hqn2
  have hqv : q < V.length := by rw [HVL.out]; exact hqn2
  obtain ⟨k, hk⟩ : ∃ k, k = ks[q] := ⟨_, rfl⟩
  obtain ⟨vq, hvq⟩ : ∃ v, v = V[q] := ⟨_, rfl⟩
  have hfo := (HOWN.out.fs q hqk hqv).1
  rw [← hk, ← hvq] at hfo
  obtain ⟨fa, fc, hsh, hfl1, hfl2, hfsl, hfar⟩ := hfo.sl
  obtain ⟨fl, hfl⟩ : ∃ m, m = k.fields.length := ⟨_, rfl⟩
  rw [← hfl] at hsh hfl1
  subst hsh
  have hflb : fl ≤ 1000000 := by rw [hfl]; exact HV.out k (by rw [hk]; exact List.getElem_mem _)
  have hrw := HOWN.out.row
  rw [HN.out] at hrw
  have hkc := kcells_get HOWN.out.len q hqk
  have o1 : w2.cell? ⟨G, q * 2 + 1, none⟩ = some (.slice fa fl fc) := by rw [hrw.cellAt (q * 2 + 1) (by omega), hkc.2, hvq]
  have f1 : w2.frozen? ⟨G, q * 2 + 1, none⟩ = false := hrw.frozenAt _
  have HVQ := Lib.hid hvq
  have HKQ := Lib.hid hk
  have HFL := Lib.hid hfl
  have HFO := Lib.hid hfo
  have HFLB := Lib.hid hflb
  have wj : IntKind.i64.wrap ((j : Int) + 1) = (j : Int) + 1 := by have h1 := HJN.out hqk; have h2 := HFLB.out; have h3 := HFL.out; rw [← HKQ.out, ← h3] at h1; rw [IntKind.wrap_i64]; omega
  have hjfl : j < fl := by have h1 := HJN.out hqk; rw [← HKQ.out, ← HFL.out] at h1; exact h1
  have hfo1 := hfo.1
  rw [← hfl] at hfo1
  have HLO := Lib.hid (fun r (h : (Value.slice fa fl fc).ownBlock = some r) => own_lt hfo1 r h)
  have CD := Lib.hid (del_F w2 (G + 1) j fl _ (fvals k.fields) hjfl hflb (fvals_one _) hfo1)
  clear hfl1 hfl2 hfsl hfar hflb hrw hkc f1 hfo hfo1 hk hvq hfl
  go_wp2_with fail
  refine CD.out.mono ?_
  rintro e W8 ⟨v8, rfl, hown8, hb, hob8⟩
  have hgq : w2.grownBy W8 V[q].ownBlock := by rw [← HVQ.out]; exact hb
  have hrk8 := HOWN.out.rowk q hqv hgq
  have hdl : (delAt k.fields j).length = fl - 1 := by unfold delAt; rw [List.length_append, List.length_take, List.length_drop, ← HFL.out]; omega
  have hfx : FOwn W8 (G + 1) v8 (delAt k.fields j) := ⟨by
    rw [hdl]
    rw [fvals_take _ _ (by rw [← HFL.out]; omega), fvals_drop _ _ (by rw [← HFL.out]; omega), ← fvals_append] at hown8
    exact hown8, fun f hf => by
    rcases List.mem_append.1 hf with h | h
    · exact HFO.out.2 f (List.mem_of_mem_take h)
    · exact HFO.out.2 f (List.mem_of_mem_drop h)⟩
  obtain ⟨f9, c9, hx9, _, _, _, _⟩ := hfx.sl
  obtain ⟨m9, hm9⟩ : ∃ m, m = (delAt k.fields j).length := ⟨_, rfl⟩
  rw [← hm9] at hx9
  clear hm9
  have hst := HOWN.out.stored (w' := W8) HN.out q hqk hqv v8 (fun l => delAt l j) hrk8 (by rw [← HKQ.out]; exact hfx) (fun i hi hi' hne => HOWN.out.elsed q hqv hgq i hi hi' hne)
  have hrk8n := hrk8
  rw [HN.out] at hrk8n
  have c8 := hrk8n.cellAt (q * 2 + 1) (by have := HQN.out; omega)
  obtain ⟨z8, hz8⟩ : ∃ z, W8.cell? ⟨G, q * 2 + 1, none⟩ = some z := ⟨_, c8.trans (kcells_get HOWN.out.len q hqk).2⟩
  have f8 : W8.frozen? ⟨G, q * 2 + 1, none⟩ = false := hrk8n.frozenAt _
  obtain ⟨w4, hw4⟩ : ∃ w, w = W8.setCell ⟨G, q * 2 + 1, none⟩ v8 := ⟨_, rfl⟩
  rw [← hw4] at hst
  have HB4 := Lib.hid (show Below W.heap.size W w4 by
    rw [hw4]
    exact (HB.out.grown hb HB.out.size (fun r h => by have := (HLO.out r h).1; have := HGB.out; omega)).setCell (Nat.le_of_lt HGB.out) _)
  have hk2 : K2 = modAt (fun k => ⟨k.name, delAt k.fields j⟩) ks q := by rw [HK2.out]; unfold oneK movedK fldM; rw [HQI.out, HJI.out, if_neg (show ¬ y.do_ = 0 by rw [HD.out]; decide), if_neg (show ¬ y.do_ = 1 by rw [HD.out]; decide), if_neg (show ¬ y.do_ = 2 by rw [HD.out]; decide), Int.toNat_natCast, Int.toNat_natCast]; simp only [if_neg (show ¬ y.do_ = 3 by rw [HD.out]; decide), if_pos HD.out]
  obtain ⟨a4, c4, ha4, h4a, h4b, hsl⟩ := sl_of_rowT (by rw [modAt_len, HN.out]) (by have := hst.1; rw [HN.out] at this; exact this) hst.2
  injection ha4 with ha4 _ hc4
  rw [← hk2] at hsl
  have HKL := Lib.hid (show K2.length = n by rw [hk2, modAt_len, HN.out])
  rw [hx9] at hw4
  have HW4 := Lib.hid hw4
  subst ha4
  subst hc4
  rw [hx9]
  clear hb hown8 hob8 hgq hrk8 hfx hst c8 hk2 hw4 hx9 o1 CD hdl wj hrk8n
  have cC := kind_Check K2 (some ⟨G, 0, none⟩) n n HKL.out (by have := H1.out; omega) h4a h4b w4 hsl.1
  rw [← HEK.out] at cC
  have CC := Lib.hid cC
  have H4 := Lib.hid (And.intro h4a h4b)
  have HSL := Lib.hid hsl
  clear cC h4a h4b hsl
  go_wp2_with fail
  rw [← HW4.out]
  refine CC.out.mono ?_
  rintro e w5 ⟨rfl, hb5⟩
  have HB5 := Lib.hid (bt HB4.out hb5)
  have HSL5 := Lib.hid (HSL.out.below hb5)
  clear hb5 CC
  by_cases he : E2 = 0
  · have HE := Lib.hid (HE2.out.symm.trans he)
    subst he
    go_wp2_with fail
    go_ret2
    exact OneT.ok HE.out (by rw [← HK2.out]; exact HKL.out) H4.out.1 H4.out.2 (by rw [← HK2.out]; exact HSL5.out) HB5.out
  · have t1 : (E2 != 0) = true := by rw [bne_iff_ne]; exact he
    have HE := Lib.hid he
    clear he
    go_wp2_with fail
    go_ret2
    exact OneT.bad HE2.out.symm HE.out HB5.out
end Go.Proofs.YtijeninfmjhbnaaDoor
end
/- migrate.one, for moves that are 5. By program (gen_migone.py). -/
section
namespace Go.Proofs.YtijeninfmjhbnaaDoor
open Go.ChangeShapes Go.WideShapes Go.ChangeAt Go.RowKit Go.Nm Go.Mem
set_option linter.unusedVariables false
theorem list11 {α : Type} {vs : List α} (h : vs.length = 11) : ∃ x0 x1 x2 x3 x4 x5 x6 x7 x8 x9 x10, vs = [x0, x1, x2, x3, x4, x5, x6, x7, x8, x9, x10] := by
  obtain ⟨x0, t0, rfl, h0⟩ := cons_of h
  obtain ⟨x1, t1, rfl, h1⟩ := cons_of h0
  obtain ⟨x2, t2, rfl, h2⟩ := cons_of h1
  obtain ⟨x3, t3, rfl, h3⟩ := cons_of h2
  obtain ⟨x4, t4, rfl, h4⟩ := cons_of h3
  obtain ⟨x5, t5, rfl, h5⟩ := cons_of h4
  obtain ⟨x6, t6, rfl, h6⟩ := cons_of h5
  obtain ⟨x7, t7, rfl, h7⟩ := cons_of h6
  obtain ⟨x8, t8, rfl, h8⟩ := cons_of h7
  obtain ⟨x9, t9, rfl, h9⟩ := cons_of h8
  obtain ⟨x10, t10, rfl, h10⟩ := cons_of h9
  exact ⟨x0, x1, x2, x3, x4, x5, x6, x7, x8, x9, x10, by rw [List.eq_nil_of_length_eq_zero h10]⟩
def F_one5 (G g n q j fg fl fc : Nat) (nm : ByteArray) (jq : Nat) (v : Value) (w : World) : Prop :=
  match jq with
  | 0 => v = .slice (some ⟨G, 0, none⟩) n n
  | 1 => v = .int .i64 (q : Int)
  | 2 => v = .pointer (some ⟨G, q * 2, none⟩)
  | 3 => v = .pointer (some ⟨G, q * 2 + 1, none⟩)
  | 4 => v = .slice (some ⟨fg, 0, none⟩) fl fc
  | 5 => v = .int .i64 (j : Int)
  | 6 => v = .pointer (some ⟨g, 3, none⟩)
  | 7 => v = .string nm
  | 8 => v = .pointer (some ⟨fg, j * 3, none⟩)
  | 9 => v = .pointer (some ⟨fg, j * 3, none⟩)
  | _ => True
theorem F_one5_mono (G g n q j fg fl fc : Nat) (nm : ByteArray) : Facts (F_one5 G g n q j fg fl fc  nm ) := ⟨by
  intro jq v w w' h hb
  unfold F_one5 at h ⊢
  split at h
  all_goals first
    | exact h
    | trivial⟩
set_option maxHeartbeats 8000000 in
set_option maxRecDepth 100000 in
theorem mig_one_5 (ks : List KindV) (ka : Option Addr) (n kc : Nat) (hn : ks.length = n) (h1 : n ≤ 1000000) (hv : ∀ k ∈ ks, k.fields.length ≤ 1000000) (y : MoveV) (a : Option Addr) (c : Nat) (W : World) (hz : SlAt 2 KindAt W ka ks) (hy : MvFine W y a c) (hwb : y.whole.fields.length ≤ 4398046510976) (hp : pE ks y = 0) (hd : y.do_ = 5) :
    Calls Tryd.prog 32 #[.slice ka n kc, .agg #[.int .i64 5, .string y.kind, .string y.field, .string y.name, .int .i64 y.value, .string y.new.name, .int .i64 y.new.bits, .int .i64 y.new.low, .string y.whole.name, .slice a y.whole.fields.length c]] W (OneT ks y W) := by
  obtain ⟨E2, hE2⟩ : ∃ e, e = oneE ks y := ⟨_, rfl⟩
  obtain ⟨K2, hK2⟩ : ∃ k, k = oneK ks y := ⟨_, rfl⟩
  have hek : E2 = kindsE K2 := by rw [hE2, hK2]; unfold oneE; rw [if_neg (by rw [hp]; simp)]
  have HEK := Lib.hid hek
  have HE2 := Lib.hid hE2
  have HK2 := Lib.hid hK2
  obtain ⟨q, hq⟩ : ∃ q : Nat, pI ks y = (q : Int) := ⟨(pI ks y).toNat, by have := pI_bound hp (by rw [hd]; decide); omega⟩
  have hqn : q < n := by have := pI_bound hp (by rw [hd]; decide); rw [hq, hn] at this; omega
  have HQN := Lib.hid hqn
  have HQI := Lib.hid hq
  obtain ⟨j, hj⟩ : ∃ j : Nat, pJ ks y = (j : Int) := ⟨(pJ ks y).toNat, by have := pJ_bound hp (by rw [hd]; decide); omega⟩
  have hjn : ∀ h : q < ks.length, j < (ks[q]'h).fields.length := fun h => by
    have := pJ_bound hp (by rw [hd]; decide)
    rw [hj, hq, Int.toNat_natCast, List.getD_eq_getElem?_getD, List.getElem?_eq_getElem h] at this
    simp only [Option.getD_some] at this
    omega
  have HJN := Lib.hid hjn
  have HJI := Lib.hid hj

  have hb0 := (Below.refl W.heap.size W).alloc (Nat.le_refl _) (.cells #[.int .i64 5, .string y.kind, .string y.field, .string y.name, .int .i64 y.value, .string y.new.name, .int .i64 y.new.bits, .int .i64 y.new.low, .string y.whole.name, .slice a y.whole.fields.length c] 45)
  have hrow := heap_alloc_new W (.cells #[.int .i64 5, .string y.kind, .string y.field, .string y.name, .int .i64 y.value, .string y.new.name, .int .i64 y.new.bits, .int .i64 y.new.low, .string y.whole.name, .slice a y.whole.fields.length c] 45)
  obtain ⟨w0, hw0⟩ : ∃ w, w = W.alloc (.cells #[.int .i64 5, .string y.kind, .string y.field, .string y.name, .int .i64 y.value, .string y.new.name, .int .i64 y.new.bits, .int .i64 y.new.low, .string y.whole.name, .slice a y.whole.fields.length c] 45) := ⟨_, rfl⟩
  rw [← hw0] at hb0 hrow
  have cP := mig_place ks ka n kc hn (by omega) (fun k hk => by have := hv k hk; omega) y a c w0 (hz.below KindAt.abides hb0)
  rw [hd, hp, hq, hj] at cP
  obtain ⟨nk, hnk⟩ : ∃ x, x = y.kind := ⟨_, rfl⟩
  obtain ⟨nf, hnf⟩ : ∃ x, x = y.field := ⟨_, rfl⟩
  obtain ⟨nm, hnm⟩ : ∃ x, x = y.name := ⟨_, rfl⟩
  obtain ⟨vv, hvv⟩ : ∃ x, x = y.value := ⟨_, rfl⟩
  obtain ⟨fn, hfn⟩ : ∃ x, x = y.new.name := ⟨_, rfl⟩
  obtain ⟨fb, hfb⟩ : ∃ x, x = y.new.bits := ⟨_, rfl⟩
  obtain ⟨fo, hfo⟩ : ∃ x, x = y.new.low := ⟨_, rfl⟩
  obtain ⟨wn, hwn⟩ : ∃ x, x = y.whole.name := ⟨_, rfl⟩
  obtain ⟨wl, hwl⟩ : ∃ x, x = y.whole.fields.length := ⟨_, rfl⟩
  rw [← hnk, ← hnf, ← hnm, ← hvv, ← hfn, ← hfb, ← hfo, ← hwn, ← hwl] at hrow hw0 cP ⊢
  rw [← hwl] at hwb
  obtain ⟨g, hg⟩ : ∃ g, g = W.heap.size := ⟨_, rfl⟩
  rw [← hg] at hrow
  have HB := Lib.hid hb0
  have HROW := Lib.hid hrow
  have HW0 := Lib.hid hw0
  have HG := Lib.hid hg
  have HN := Lib.hid hn
  have H1 := Lib.hid h1
  have HV := Lib.hid hv
  have HZ := Lib.hid hz
  have HY := Lib.hid hy
  have HD := Lib.hid hd
  have HNM := Lib.hid (And.intro hnm (And.intro hfn (And.intro hfb (And.intro hfo (And.intro hwn hwl)))))
  have HWB := Lib.hid hwb
  have CP := Lib.hid cP
  clear hek hE2 hK2 hp hb0 hrow hw0 hg hn h1 hv hz hy hd hnk hnf hnm hvv hfn hfb hfo hwn hwl hwb cP hqn hq hjn hj
  go_enter Tryd.func32, Tryd.ntmps32
  go_wp2_with fail
  rw [← HW0.out, ← HG.out]
  refine CP.out.mono ?_
  rintro e w1 ⟨rfl, hb1⟩
  replace HB := Lib.hid (bt HB.out hb1)
  replace HROW := Lib.hid (heap_below HROW.out hb1)
  have CK := Lib.hid (kind_CopyO ks ka n kc HN.out (by have := H1.out; omega) (fun k hk => by have := HV.out k hk; omega) w1 (HZ.out.below KindAt.abides HB.out))
  obtain ⟨G, hGG⟩ : ∃ G, G = w1.heap.size := ⟨_, rfl⟩
  rw [← hGG] at CK
  have HGB := Lib.hid (show W.heap.size < G by rw [hGG]; have := lt_of_heap HROW.out; rw [HG.out] at this; exact this)
  have HGG := Lib.hid hGG
  clear hb1 CP HW0 hGG
  go_wp2_with fail
  refine CK.out.mono ?_
  rintro e w2 ⟨⟨V, rfl, hown⟩, hb2⟩
  replace HB := Lib.hid (bt HB.out (by rw [← HGG.out]; exact hb2))
  replace HROW := Lib.hid (heap_below HROW.out (by rw [← HGG.out]; exact hb2))
  have HOWN := Lib.hid hown
  have HVL := Lib.hid (show V.length = n by rw [hown.len, HN.out])
  have HGT := Lib.hid (show G < w2.heap.size from (own_lt hown.row G rfl).2)
  have HGA := Lib.hid (show g < G by rw [HG.out]; exact HGB.out)
  have r0 := cell_of_row _ _ 0 _ _ _ HROW.out
  clear hb2 CK hown HGG
  have hqn2 := HQN.out
  have hqk : q < ks.length := by rw [HN.out]; exact hqn2
  have hqv : q < V.length := by rw [HVL.out]; exact hqn2
  obtain ⟨k, hk⟩ : ∃ k, k = ks[q] := ⟨_, rfl⟩
  obtain ⟨vq, hvq⟩ : ∃ v, v = V[q] := ⟨_, rfl⟩
  have hfo := (HOWN.out.fs q hqk hqv).1
  rw [← hk, ← hvq] at hfo
  obtain ⟨fa, fc, hsh, hfl1, hfl2, hfsl, hfar⟩ := hfo.sl
  obtain ⟨fl, hfl⟩ : ∃ m, m = k.fields.length := ⟨_, rfl⟩
  rw [← hfl] at hsh hfl1
  subst hsh
  have hflb : fl ≤ 1000000 := by rw [hfl]; exact HV.out k (by rw [hk]; exact List.getElem_mem _)
  have hrw := HOWN.out.row
  rw [HN.out] at hrw
  have hkc := kcells_get HOWN.out.len q hqk
  have o1 : w2.cell? ⟨G, q * 2 + 1, none⟩ = some (.slice fa fl fc) := by rw [hrw.cellAt (q * 2 + 1) (by omega), hkc.2, hvq]
  have f1 : w2.frozen? ⟨G, q * 2 + 1, none⟩ = false := hrw.frozenAt _
  have HVQ := Lib.hid hvq
  have HKQ := Lib.hid hk
  have HFL := Lib.hid hfl
  have HFO := Lib.hid hfo
  have HFLB := Lib.hid hflb
  have hjfl : j < fl := by have h1 := HJN.out hqk; rw [← HKQ.out, ← HFL.out] at h1; exact h1
  have hfo1 := hfo.1
  rw [← hfl] at hfo1
  obtain ⟨fg, fcap, hsh, hfg1, hfg2⟩ := hfo1.form (by omega)
  injection hsh with hsh _ hsc
  subst hsh
  subst hsc
  have HLO := Lib.hid (own_lt hfo1 fg rfl)
  have HFO1 := Lib.hid hfo1
  have HJF := Lib.hid hjfl
  have O1 := Lib.hid o1
  have R3 := Lib.hid (cell_of_row _ _ 3 _ _ _ HROW.out)
  clear hqn2 hfl1 hfl2 hfsl hfar hflb hrw hkc f1 hfo hfo1 o1 hfg1 hfg2 hk hvq hfl
  go_wp2_with fail
  refine wp_region_facts_t rfl 10 (by kernel_rfl) (F_one5 G g n q j fg fl fc nm) (F_one5_mono G g n q j fg fl fc nm) ?_ ?_
  · refine ⟨?_, ?_, ?_, ?_, ?_, ?_, ?_, ?_, ?_, ?_, trivial⟩
    · intro vs w' F hb hd hF hl hT
      have e := (hF 9).trans (look_out _ 9 _ _ (by kernel_rfl))
      exact one_move _ rfl (by first | exact Or.inl rfl | exact Or.inr rfl) ⟨_, rfl, Below.refl _ _, e⟩
    · intro vs w' F hb hd hF hl hT
      have e := (hF 6).trans (look_out _ 6 _ _ (by kernel_rfl))
      exact one_move _ rfl (by first | exact Or.inl rfl | exact Or.inr rfl) ⟨_, rfl, Below.refl _ _, e⟩
    · intro vs w' F hb hd hF hl hT
      have ex := ((hF 80).trans (look_at _ 80 0 _ _ (by kernel_rfl) (by kernel_rfl) hl)).trans (dep_of (Fact := F_one5 G g n q j fg fl fc nm) hd 0 (by kernel_rfl))
      have ey := ((hF 81).trans (look_at _ 81 1 _ _ (by kernel_rfl) (by kernel_rfl) hl)).trans (dep_of (Fact := F_one5 G g n q j fg fl fc nm) hd 1 (by kernel_rfl))
      exact one_index 22 _ _ rfl rfl (.slice (some ⟨G, 0, none⟩) n n) (.int .i64 (q : Int)) (.pointer (some ⟨G, q * 2, none⟩)) ex ey (fun w => by have h := rg_idx Tryd.underlying22 (show (Tryd.prog.info? 43).map (·.size) = some 2 by kernel_rfl) (G) (0) (n) (n) (q) (HQN.out) w; rw [Nat.zero_add] at h; exact h) ⟨_, rfl, Below.refl _ _, rfl⟩
    · intro vs w' F hb hd hF hl hT
      have e := ((hF 82).trans (look_at _ 82 2 _ _ (by kernel_rfl) (by kernel_rfl) hl)).trans (dep_of (Fact := F_one5 G g n q j fg fl fc nm) hd 2 (by kernel_rfl))
      exact one_field _ _ _ rfl rfl _ _ e (q * 2 + 1) (fun w => by kernel_rfl) ⟨_, rfl, Below.refl _ _, rfl⟩
    · intro vs w' F hb hd hF hl hT
      have e := ((hF 83).trans (look_at _ 83 3 _ _ (by kernel_rfl) (by kernel_rfl) hl)).trans (dep_of (Fact := F_one5 G g n q j fg fl fc nm) hd 3 (by kernel_rfl))
      exact one_load _ _ rfl rfl _ _ e (cell_abides O1.out hb) (by kernel_rfl) ⟨_, rfl, Below.refl _ _, rfl⟩
    · intro vs w' F hb hd hF hl hT
      have e := (hF 7).trans (look_out _ 7 _ _ (by kernel_rfl))
      exact one_move _ rfl (by first | exact Or.inl rfl | exact Or.inr rfl) ⟨_, rfl, Below.refl _ _, e⟩
    · intro vs w' F hb hd hF hl hT
      have e := (hF 3).trans (look_out _ 3 _ _ (by kernel_rfl))
      exact one_field _ _ _ rfl rfl _ _ e (3) (fun w => by kernel_rfl) ⟨_, rfl, Below.refl _ _, rfl⟩
    · intro vs w' F hb hd hF hl hT
      have e := ((hF 86).trans (look_at _ 86 6 _ _ (by kernel_rfl) (by kernel_rfl) hl)).trans (dep_of (Fact := F_one5 G g n q j fg fl fc nm) hd 6 (by kernel_rfl))
      exact one_load _ _ rfl rfl _ _ e (cell_abides R3.out hb) (by kernel_rfl) ⟨_, rfl, Below.refl _ _, rfl⟩
    · intro vs w' F hb hd hF hl hT
      have ex := ((hF 84).trans (look_at _ 84 4 _ _ (by kernel_rfl) (by kernel_rfl) hl)).trans (dep_of (Fact := F_one5 G g n q j fg fl fc nm) hd 4 (by kernel_rfl))
      have ey := ((hF 85).trans (look_at _ 85 5 _ _ (by kernel_rfl) (by kernel_rfl) hl)).trans (dep_of (Fact := F_one5 G g n q j fg fl fc nm) hd 5 (by kernel_rfl))
      exact one_index 41 _ _ rfl rfl (.slice (some ⟨fg, 0, none⟩) fl fc) (.int .i64 (j : Int)) (.pointer (some ⟨fg, j * 3, none⟩)) ex ey (fun w => by have h := rg_idx Tryd.underlying41 (show (Tryd.prog.info? 40).map (·.size) = some 3 by kernel_rfl) (fg) (0) (fl) (fc) (j) (HJF.out) w; rw [Nat.zero_add] at h; exact h) ⟨_, rfl, Below.refl _ _, rfl⟩
    · intro vs w' F hb hd hF hl hT
      have e := ((hF 88).trans (look_at _ 88 8 _ _ (by kernel_rfl) (by kernel_rfl) hl)).trans (dep_of (Fact := F_one5 G g n q j fg fl fc nm) hd 8 (by kernel_rfl))
      exact one_field _ _ _ rfl rfl _ _ e (j * 3) (fun w => by kernel_rfl) ⟨_, rfl, Below.refl _ _, rfl⟩
  · intro vs8 W8 hl hb hI
    have i7 : vs8.getD 7 undef = .string nm := hI 7 (by omega)
    have i9 : vs8.getD 9 undef = .pointer (some ⟨fg, j * 3, none⟩) := hI 9 (by omega)
    obtain ⟨x0, x1, x2, x3, x4, x5, x6, x7, x8, x9, x10, hvs⟩ := list11 hl
    subst hvs
    replace i7 : x7 = .string nm := i7
    replace i9 : x9 = .pointer (some ⟨fg, j * 3, none⟩) := i9
    subst i7 i9
    have HB8 := Lib.hid (show Below W.heap.size W W8 from bt HB.out hb)
    have hf8 := own_below HFO1.out hb
    have hx0 : ∃ z, W8.cell? ⟨fg, j * 3, none⟩ = some z := ⟨_, (hf8.cellAt (j * 3) (by omega)).trans (fvals_at k.fields j (by rw [← HFL.out]; omega)).1⟩
    have hx1 : ∃ z, W8.cell? ⟨fg, j * 3 + 1, none⟩ = some z := ⟨_, (hf8.cellAt (j * 3 + 1) (by omega)).trans (fvals_at k.fields j (by rw [← HFL.out]; omega)).2.1⟩
    have hx2 : ∃ z, W8.cell? ⟨fg, j * 3 + 2, none⟩ = some z := ⟨_, (hf8.cellAt (j * 3 + 2) (by omega)).trans (fvals_at k.fields j (by rw [← HFL.out]; omega)).2.2⟩
    obtain ⟨z0, hz0⟩ := hx0
    obtain ⟨z1, hz1⟩ := hx1
    obtain ⟨z2, hz2⟩ := hx2
    have k0 : W8.frozen? ⟨fg, j * 3, none⟩ = false := hf8.frozenAt _
    have k1 : W8.frozen? ⟨fg, j * 3 + 1, none⟩ = false := hf8.frozenAt _
    have k2 : W8.frozen? ⟨fg, j * 3 + 2, none⟩ = false := hf8.frozenAt _
    have hOW8 := HOWN.out.below hb
    obtain ⟨w4, hw4⟩ : ∃ w, w = W8.setCell ⟨fg, j * 3, none⟩ (.string nm) := ⟨_, rfl⟩
    have hg4 : W8.grownBy w4 (some fg) := by rw [hw4]; exact Dl.gb_set (Dl.gb_refl W8 (some fg)) _ _
    have hgq : W8.grownBy w4 V[q].ownBlock := by rw [← HVQ.out]; exact hg4
    have hfx : FOwn w4 (G + 1) V[q] (modAt (fun f => ⟨nm, f.bits, f.low⟩) k.fields j) := ⟨by
      rw [← HVQ.out, modAt_len, ← HFL.out, ← fvals_name nm k.fields j (by rw [← HFL.out]; exact HJF.out), hw4]
      exact (hf8.stored (j * 3) (.string nm)).1, fun f hf => by
      obtain ⟨i, hi, rfl⟩ := List.mem_iff_getElem.1 hf
      have hi2 : i < k.fields.length := by rw [modAt_len] at hi; exact hi
      rw [modAt_get _ _ _ _ hi hi2]
      split
      · show nm.size ≤ _; rw [HNM.out.1]; exact HY.out.n
      · exact HFO.out.2 _ (List.getElem_mem _)⟩
    have hst := hOW8.inplace (w' := w4) q hqk hqv (fun l => modAt (fun f => ⟨nm, f.bits, f.low⟩) l j) hgq (by rw [← HKQ.out]; exact hfx)
    have HB4 := Lib.hid (show Below W.heap.size W w4 from HB8.out.grown hg4 HB8.out.size (fun r h => by injection h with h; have := HLO.out.1; have := HGB.out; omega))
    have hk2 : K2 = modAt (fun k => ⟨k.name, modAt (fun f => ⟨nm, f.bits, f.low⟩) k.fields j⟩) ks q := by rw [HK2.out]; unfold oneK movedK fldM; rw [HQI.out, HJI.out, if_neg (show ¬ y.do_ = 0 by rw [HD.out]; decide), if_neg (show ¬ y.do_ = 1 by rw [HD.out]; decide), if_neg (show ¬ y.do_ = 2 by rw [HD.out]; decide), Int.toNat_natCast, Int.toNat_natCast]; simp only [if_neg (show ¬ y.do_ = 3 by rw [HD.out]; decide), if_neg (show ¬ y.do_ = 4 by rw [HD.out]; decide), if_pos HD.out, HNM.out.1]
    obtain ⟨a4, c4, ha4, h4a, h4b, hsl⟩ := sl_of_rowT (by rw [modAt_len, HN.out]) (by have := hst.1; rw [HN.out] at this; exact this) hst.2
    injection ha4 with ha4 _ hc4
    rw [← hk2] at hsl
    have HKL := Lib.hid (show K2.length = n by rw [hk2, modAt_len, HN.out])
    have HW4 := Lib.hid hw4
    subst ha4
    subst hc4
    clear hI hl hb hf8 hOW8 hg4 hgq hfx hst hk2 hw4
    simp only [fillAll, Act.put, List.setIfInBounds_toArray, List.set_cons_succ, List.set_cons_zero, List.drop_succ_cons, List.drop_zero]
    have cC := kind_Check K2 (some ⟨G, 0, none⟩) n n HKL.out (by have := H1.out; omega) h4a h4b w4 hsl.1
    rw [← HEK.out] at cC
    have CC := Lib.hid cC
    have H4 := Lib.hid (And.intro h4a h4b)
    have HSL := Lib.hid hsl
    clear cC h4a h4b hsl
    go_wp2_with fail
    rw [← HW4.out]
    refine CC.out.mono ?_
    rintro e w5 ⟨rfl, hb5⟩
    have HB5 := Lib.hid (bt HB4.out hb5)
    have HSL5 := Lib.hid (HSL.out.below hb5)
    clear hb5 CC
    by_cases he : E2 = 0
    · have HE := Lib.hid (HE2.out.symm.trans he)
      subst he
      go_wp2_with fail
      go_ret2
      exact OneT.ok HE.out (by rw [← HK2.out]; exact HKL.out) H4.out.1 H4.out.2 (by rw [← HK2.out]; exact HSL5.out) HB5.out
    · have t1 : (E2 != 0) = true := by rw [bne_iff_ne]; exact he
      have HE := Lib.hid he
      clear he
      go_wp2_with fail
      go_ret2
      exact OneT.bad HE2.out.symm HE.out HB5.out
end Go.Proofs.YtijeninfmjhbnaaDoor
end
/- migrate.one, for moves that are 6. By program (gen_migone.py). -/
section
namespace Go.Proofs.YtijeninfmjhbnaaDoor
open Go.ChangeShapes Go.WideShapes Go.ChangeAt Go.RowKit Go.Nm Go.Mem
set_option linter.unusedVariables false
set_option maxHeartbeats 8000000 in
set_option maxRecDepth 100000 in
theorem mig_one_6 (ks : List KindV) (ka : Option Addr) (n kc : Nat) (hn : ks.length = n) (h1 : n ≤ 1000000) (hv : ∀ k ∈ ks, k.fields.length ≤ 1000000) (y : MoveV) (a : Option Addr) (c : Nat) (W : World) (hz : SlAt 2 KindAt W ka ks) (hy : MvFine W y a c) (hwb : y.whole.fields.length ≤ 4398046510976) (hp : pE ks y = 0) (hd : y.do_ = 6) :
    Calls Tryd.prog 32 #[.slice ka n kc, .agg #[.int .i64 6, .string y.kind, .string y.field, .string y.name, .int .i64 y.value, .string y.new.name, .int .i64 y.new.bits, .int .i64 y.new.low, .string y.whole.name, .slice a y.whole.fields.length c]] W (OneT ks y W) := by
  obtain ⟨E2, hE2⟩ : ∃ e, e = oneE ks y := ⟨_, rfl⟩
  obtain ⟨K2, hK2⟩ : ∃ k, k = oneK ks y := ⟨_, rfl⟩
  have hek : E2 = kindsE K2 := by rw [hE2, hK2]; unfold oneE; rw [if_neg (by rw [hp]; simp)]
  have HEK := Lib.hid hek
  have HE2 := Lib.hid hE2
  have HK2 := Lib.hid hK2
  obtain ⟨q, hq⟩ : ∃ q : Nat, pI ks y = (q : Int) := ⟨(pI ks y).toNat, by have := pI_bound hp (by rw [hd]; decide); omega⟩
  have hqn : q < n := by have := pI_bound hp (by rw [hd]; decide); rw [hq, hn] at this; omega
  have HQN := Lib.hid hqn
  have HQI := Lib.hid hq
  obtain ⟨j, hj⟩ : ∃ j : Nat, pJ ks y = (j : Int) := ⟨(pJ ks y).toNat, by have := pJ_bound hp (by rw [hd]; decide); omega⟩
  have hjn : ∀ h : q < ks.length, j < (ks[q]'h).fields.length := fun h => by
    have := pJ_bound hp (by rw [hd]; decide)
    rw [hj, hq, Int.toNat_natCast, List.getD_eq_getElem?_getD, List.getElem?_eq_getElem h] at this
    simp only [Option.getD_some] at this
    omega
  have HJN := Lib.hid hjn
  have HJI := Lib.hid hj

  have hb0 := (Below.refl W.heap.size W).alloc (Nat.le_refl _) (.cells #[.int .i64 6, .string y.kind, .string y.field, .string y.name, .int .i64 y.value, .string y.new.name, .int .i64 y.new.bits, .int .i64 y.new.low, .string y.whole.name, .slice a y.whole.fields.length c] 45)
  have hrow := heap_alloc_new W (.cells #[.int .i64 6, .string y.kind, .string y.field, .string y.name, .int .i64 y.value, .string y.new.name, .int .i64 y.new.bits, .int .i64 y.new.low, .string y.whole.name, .slice a y.whole.fields.length c] 45)
  obtain ⟨w0, hw0⟩ : ∃ w, w = W.alloc (.cells #[.int .i64 6, .string y.kind, .string y.field, .string y.name, .int .i64 y.value, .string y.new.name, .int .i64 y.new.bits, .int .i64 y.new.low, .string y.whole.name, .slice a y.whole.fields.length c] 45) := ⟨_, rfl⟩
  rw [← hw0] at hb0 hrow
  have cP := mig_place ks ka n kc hn (by omega) (fun k hk => by have := hv k hk; omega) y a c w0 (hz.below KindAt.abides hb0)
  rw [hd, hp, hq, hj] at cP
  obtain ⟨nk, hnk⟩ : ∃ x, x = y.kind := ⟨_, rfl⟩
  obtain ⟨nf, hnf⟩ : ∃ x, x = y.field := ⟨_, rfl⟩
  obtain ⟨nm, hnm⟩ : ∃ x, x = y.name := ⟨_, rfl⟩
  obtain ⟨vv, hvv⟩ : ∃ x, x = y.value := ⟨_, rfl⟩
  obtain ⟨fn, hfn⟩ : ∃ x, x = y.new.name := ⟨_, rfl⟩
  obtain ⟨fb, hfb⟩ : ∃ x, x = y.new.bits := ⟨_, rfl⟩
  obtain ⟨fo, hfo⟩ : ∃ x, x = y.new.low := ⟨_, rfl⟩
  obtain ⟨wn, hwn⟩ : ∃ x, x = y.whole.name := ⟨_, rfl⟩
  obtain ⟨wl, hwl⟩ : ∃ x, x = y.whole.fields.length := ⟨_, rfl⟩
  rw [← hnk, ← hnf, ← hnm, ← hvv, ← hfn, ← hfb, ← hfo, ← hwn, ← hwl] at hrow hw0 cP ⊢
  rw [← hwl] at hwb
  obtain ⟨g, hg⟩ : ∃ g, g = W.heap.size := ⟨_, rfl⟩
  rw [← hg] at hrow
  have HB := Lib.hid hb0
  have HROW := Lib.hid hrow
  have HW0 := Lib.hid hw0
  have HG := Lib.hid hg
  have HN := Lib.hid hn
  have H1 := Lib.hid h1
  have HV := Lib.hid hv
  have HZ := Lib.hid hz
  have HY := Lib.hid hy
  have HD := Lib.hid hd
  have HNM := Lib.hid (And.intro hnm (And.intro hfn (And.intro hfb (And.intro hfo (And.intro hwn hwl)))))
  have HWB := Lib.hid hwb
  have CP := Lib.hid cP
  clear hek hE2 hK2 hp hb0 hrow hw0 hg hn h1 hv hz hy hd hnk hnf hnm hvv hfn hfb hfo hwn hwl hwb cP hqn hq hjn hj
  go_enter Tryd.func32, Tryd.ntmps32
  go_wp2_with fail
  rw [← HW0.out, ← HG.out]
  refine CP.out.mono ?_
  rintro e w1 ⟨rfl, hb1⟩
  replace HB := Lib.hid (bt HB.out hb1)
  replace HROW := Lib.hid (heap_below HROW.out hb1)
  have CK := Lib.hid (kind_CopyO ks ka n kc HN.out (by have := H1.out; omega) (fun k hk => by have := HV.out k hk; omega) w1 (HZ.out.below KindAt.abides HB.out))
  obtain ⟨G, hGG⟩ : ∃ G, G = w1.heap.size := ⟨_, rfl⟩
  rw [← hGG] at CK
  have HGB := Lib.hid (show W.heap.size < G by rw [hGG]; have := lt_of_heap HROW.out; rw [HG.out] at this; exact this)
  have HGG := Lib.hid hGG
  clear hb1 CP HW0 hGG
  go_wp2_with fail
  refine CK.out.mono ?_
  rintro e w2 ⟨⟨V, rfl, hown⟩, hb2⟩
  replace HB := Lib.hid (bt HB.out (by rw [← HGG.out]; exact hb2))
  replace HROW := Lib.hid (heap_below HROW.out (by rw [← HGG.out]; exact hb2))
  have HOWN := Lib.hid hown
  have HVL := Lib.hid (show V.length = n by rw [hown.len, HN.out])
  have HGT := Lib.hid (show G < w2.heap.size from (own_lt hown.row G rfl).2)
  have HGA := Lib.hid (show g < G by rw [HG.out]; exact HGB.out)
  have r0 := cell_of_row _ _ 0 _ _ _ HROW.out
  clear hb2 CK hown HGG
  have hqn2 := HQN.out
  have hqk : q < ks.length := by rw [HN.out]; exact hqn2
  have hqv : q < V.length := by rw [HVL.out]; exact hqn2
  obtain ⟨k, hk⟩ : ∃ k, k = ks[q] := ⟨_, rfl⟩
  obtain ⟨vq, hvq⟩ : ∃ v, v = V[q] := ⟨_, rfl⟩
  have hfo := (HOWN.out.fs q hqk hqv).1
  rw [← hk, ← hvq] at hfo
  obtain ⟨fa, fc, hsh, hfl1, hfl2, hfsl, hfar⟩ := hfo.sl
  obtain ⟨fl, hfl⟩ : ∃ m, m = k.fields.length := ⟨_, rfl⟩
  rw [← hfl] at hsh hfl1
  subst hsh
  have hflb : fl ≤ 1000000 := by rw [hfl]; exact HV.out k (by rw [hk]; exact List.getElem_mem _)
  have hrw := HOWN.out.row
  rw [HN.out] at hrw
  have hkc := kcells_get HOWN.out.len q hqk
  have o1 : w2.cell? ⟨G, q * 2 + 1, none⟩ = some (.slice fa fl fc) := by rw [hrw.cellAt (q * 2 + 1) (by omega), hkc.2, hvq]
  have f1 : w2.frozen? ⟨G, q * 2 + 1, none⟩ = false := hrw.frozenAt _
  have HVQ := Lib.hid hvq
  have HKQ := Lib.hid hk
  have HFL := Lib.hid hfl
  have HFO := Lib.hid hfo
  have HFLB := Lib.hid hflb
  have hjfl : j < fl := by have h1 := HJN.out hqk; rw [← HKQ.out, ← HFL.out] at h1; exact h1
  have hfo1 := hfo.1
  rw [← hfl] at hfo1
  obtain ⟨fg, fcap, hsh, hfg1, hfg2⟩ := hfo1.form (by omega)
  injection hsh with hsh _ hsc
  subst hsh
  subst hsc
  have HLO := Lib.hid (own_lt hfo1 fg rfl)
  have HFO1 := Lib.hid hfo1
  have r6 := cell_of_row _ _ 6 _ _ _ HROW.out
  have r7 := cell_of_row _ _ 7 _ _ _ HROW.out
  obtain ⟨z1, hz1⟩ : ∃ z, w2.cell? ⟨fg, j * 3 + 1, none⟩ = some z := ⟨_, (hfo1.cellAt (j * 3 + 1) (by omega)).trans (fvals_at k.fields j (by rw [← HFL.out]; omega)).2.1⟩
  obtain ⟨z2, hz2⟩ : ∃ z, w2.cell? ⟨fg, j * 3 + 2, none⟩ = some z := ⟨_, (hfo1.cellAt (j * 3 + 2) (by omega)).trans (fvals_at k.fields j (by rw [← HFL.out]; omega)).2.2⟩
  have k1 : w2.frozen? ⟨fg, j * 3 + 1, none⟩ = false := hfo1.frozenAt _
  have k2 : w2.frozen? ⟨fg, j * 3 + 2, none⟩ = false := hfo1.frozenAt _
  have hne1 : fg ≠ G := by have := HLO.out.1; omega
  have hne2 : fg ≠ g := by have := HLO.out.1; have := HGA.out; omega
  obtain ⟨w4, hw4⟩ : ∃ w, w = (((w2.setCell ⟨fg, j * 3 + 1, none⟩ (.int .i64 fb)).setCell ⟨fg, j * 3 + 2, none⟩ (.int .i64 fo)).drew) := ⟨_, rfl⟩
  have hg4 : w2.grownBy w4 (some fg) := by rw [hw4]; exact Dl.gb_drew (Dl.gb_set (Dl.gb_set (Dl.gb_refl w2 (some fg)) _ _) _ _)
  have hgq : w2.grownBy w4 V[q].ownBlock := by rw [← HVQ.out]; exact hg4
  have hfx : FOwn w4 (G + 1) V[q] (modAt (fun f => ⟨f.name, fb, fo⟩) k.fields j) := ⟨by
    rw [← HVQ.out, modAt_len, ← HFL.out, ← fvals_bits fb fo k.fields j (by rw [← HFL.out]; exact hjfl), hw4]
    exact ((((hfo1.stored (j * 3 + 1) (.int .i64 fb)).1).stored (j * 3 + 2) (.int .i64 fo)).1).drew, fun f hf => by
    obtain ⟨i, hi, rfl⟩ := List.mem_iff_getElem.1 hf
    have hi2 : i < k.fields.length := by rw [modAt_len] at hi; exact hi
    rw [modAt_get _ _ _ _ hi hi2]
    split
    · exact HFO.out.2 (k.fields[i]) (List.getElem_mem _)
    · exact HFO.out.2 _ (List.getElem_mem _)⟩
  have hst := HOWN.out.inplace (w' := w4) q hqk hqv (fun l => modAt (fun f => ⟨f.name, fb, fo⟩) l j) hgq (by rw [← HKQ.out]; exact hfx)
  have HB4 := Lib.hid (show Below W.heap.size W w4 from HB.out.grown hg4 HB.out.size (fun r h => by injection h with h; have := HLO.out.1; have := HGB.out; omega))
  have hk2 : K2 = modAt (fun k => ⟨k.name, modAt (fun f => ⟨f.name, fb, fo⟩) k.fields j⟩) ks q := by rw [HK2.out]; unfold oneK movedK fldM; rw [HQI.out, HJI.out, if_neg (show ¬ y.do_ = 0 by rw [HD.out]; decide), if_neg (show ¬ y.do_ = 1 by rw [HD.out]; decide), if_neg (show ¬ y.do_ = 2 by rw [HD.out]; decide), Int.toNat_natCast, Int.toNat_natCast]; simp only [if_neg (show ¬ y.do_ = 3 by rw [HD.out]; decide), if_neg (show ¬ y.do_ = 4 by rw [HD.out]; decide), if_neg (show ¬ y.do_ = 5 by rw [HD.out]; decide), HNM.out.2.2.1, HNM.out.2.2.2.1]
  obtain ⟨a4, c4, ha4, h4a, h4b, hsl⟩ := sl_of_rowT (by rw [modAt_len, HN.out]) (by have := hst.1; rw [HN.out] at this; exact this) hst.2
  injection ha4 with ha4 _ hc4
  rw [← hk2] at hsl
  have HKL := Lib.hid (show K2.length = n by rw [hk2, modAt_len, HN.out])
  have HW4 := Lib.hid hw4
  subst ha4
  subst hc4
  clear hfl1 hfl2 hfsl hfar hflb hrw hkc f1 hfo hfo1 hfg1 hfg2 hk hvq hfl hg4 hgq hfx hst hk2 hw4
  go_wp2_with fail
  go_region
  have cC := kind_Check K2 (some ⟨G, 0, none⟩) n n HKL.out (by have := H1.out; omega) h4a h4b w4 hsl.1
  rw [← HEK.out] at cC
  have CC := Lib.hid cC
  have H4 := Lib.hid (And.intro h4a h4b)
  have HSL := Lib.hid hsl
  clear cC h4a h4b hsl
  go_wp2_with fail
  rw [← HW4.out]
  refine CC.out.mono ?_
  rintro e w5 ⟨rfl, hb5⟩
  have HB5 := Lib.hid (bt HB4.out hb5)
  have HSL5 := Lib.hid (HSL.out.below hb5)
  clear hb5 CC
  by_cases he : E2 = 0
  · have HE := Lib.hid (HE2.out.symm.trans he)
    subst he
    go_wp2_with fail
    go_ret2
    exact OneT.ok HE.out (by rw [← HK2.out]; exact HKL.out) H4.out.1 H4.out.2 (by rw [← HK2.out]; exact HSL5.out) HB5.out
  · have t1 : (E2 != 0) = true := by rw [bne_iff_ne]; exact he
    have HE := Lib.hid he
    clear he
    go_wp2_with fail
    go_ret2
    exact OneT.bad HE2.out.symm HE.out HB5.out
end Go.Proofs.YtijeninfmjhbnaaDoor
end
