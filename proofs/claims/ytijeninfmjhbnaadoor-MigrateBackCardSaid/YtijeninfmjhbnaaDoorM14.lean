/- Lemmas for the law MigrateBack: MigInvA, MigOne0, MigOne1, MigOne2, MigOne3. No conditions. -/
import Derived.Test.YtijeninfmjhbnaaDoorM10
import Derived.Test.YtijeninfmjhbnaaDoorM13
import Derived.Deep.DeepMust
import Derived.OwnWalk
import Derived.Test.YtijeninfmjhbnaaDoorM07
/- migrate.inverse, for all moves. -/
section
namespace Go.Proofs.YtijeninfmjhbnaaDoor
open Go.ChangeShapes Go.WideShapes Go.ChangeAt Go.RowKit Go.Nm Go.Mem
set_option linter.unusedVariables false
theorem mig_inverse (ks : List KindV) (ka : Option Addr) (n kc : Nat) (hn : ks.length = n) (h1 : n ≤ 1048576) (hv : ∀ k ∈ ks, k.fields.length ≤ 1048576) (y : MoveV) (a : Option Addr) (c : Nat) (W : World) (hz : SlAt 2 KindAt W ka ks) (hk0 : kindsE ks = 0) (he : oneE ks y = 0) :
    Calls Tryd.prog 31 #[.slice ka n kc, .agg #[.int .i64 y.do_, .string y.kind, .string y.field, .string y.name, .int .i64 y.value, .string y.new.name, .int .i64 y.new.bits, .int .i64 y.new.low, .string y.whole.name, .slice a y.whole.fields.length c]] W (InvPost ks y W) := by
  have hz0 := (pE_zero (oneE_kinds he).1).1
  rcases (show y.do_ = 0 ∨ y.do_ = 1 ∨ y.do_ = 2 ∨ y.do_ = 3 ∨ y.do_ = 4 ∨ y.do_ = 5 ∨ y.do_ = 6 by omega) with h | h | h | h | h | h | h
  · have := mig_inv_0 ks ka n kc hn h1 hv y a c W hz hk0 he h; rw [h]; exact this
  · have := mig_inv_1 ks ka n kc hn h1 hv y a c W hz hk0 he h; rw [h]; exact this
  · have := mig_inv_2 ks ka n kc hn h1 hv y a c W hz hk0 he h; rw [h]; exact this
  · have := mig_inv_3 ks ka n kc hn h1 hv y a c W hz hk0 he h; rw [h]; exact this
  · have := mig_inv_4 ks ka n kc hn h1 hv y a c W hz hk0 he h; rw [h]; exact this
  · have := mig_inv_5 ks ka n kc hn h1 hv y a c W hz hk0 he h; rw [h]; exact this
  · have := mig_inv_6 ks ka n kc hn h1 hv y a c W hz hk0 he h; rw [h]; exact this
end Go.Proofs.YtijeninfmjhbnaaDoor
end
/- migrate.one, for moves that are 0. By program (gen_migone.py). -/
section
namespace Go.Proofs.YtijeninfmjhbnaaDoor
open Go.ChangeShapes Go.WideShapes Go.ChangeAt Go.RowKit Go.Nm Go.Mem
set_option linter.unusedVariables false
set_option maxHeartbeats 8000000 in
set_option maxRecDepth 100000 in
theorem mig_one_0 (ks : List KindV) (ka : Option Addr) (n kc : Nat) (hn : ks.length = n) (h1 : n ≤ 1000000) (hv : ∀ k ∈ ks, k.fields.length ≤ 1000000) (y : MoveV) (a : Option Addr) (c : Nat) (W : World) (hz : SlAt 2 KindAt W ka ks) (hy : MvFine W y a c) (hwb : y.whole.fields.length ≤ 4398046510976) (hp : pE ks y = 0) (hd : y.do_ = 0) :
    Calls Tryd.prog 32 #[.slice ka n kc, .agg #[.int .i64 0, .string y.kind, .string y.field, .string y.name, .int .i64 y.value, .string y.new.name, .int .i64 y.new.bits, .int .i64 y.new.low, .string y.whole.name, .slice a y.whole.fields.length c]] W (OneT ks y W) := by
  obtain ⟨E2, hE2⟩ : ∃ e, e = oneE ks y := ⟨_, rfl⟩
  obtain ⟨K2, hK2⟩ : ∃ k, k = oneK ks y := ⟨_, rfl⟩
  have hek : E2 = kindsE K2 := by rw [hE2, hK2]; unfold oneE; rw [if_neg (by rw [hp]; simp)]
  have HEK := Lib.hid hek
  have HE2 := Lib.hid hE2
  have HK2 := Lib.hid hK2
  have hp0 : pI ks y = 0 ∧ pJ ks y = 0 := ⟨by unfold pI; rw [if_pos (Or.inr hd)], by unfold pJ; rw [if_pos (Or.inr (by rw [hd]; decide))]⟩
  have hb0 := (Below.refl W.heap.size W).alloc (Nat.le_refl _) (.cells #[.int .i64 0, .string y.kind, .string y.field, .string y.name, .int .i64 y.value, .string y.new.name, .int .i64 y.new.bits, .int .i64 y.new.low, .string y.whole.name, .slice a y.whole.fields.length c] 45)
  have hrow := heap_alloc_new W (.cells #[.int .i64 0, .string y.kind, .string y.field, .string y.name, .int .i64 y.value, .string y.new.name, .int .i64 y.new.bits, .int .i64 y.new.low, .string y.whole.name, .slice a y.whole.fields.length c] 45)
  obtain ⟨w0, hw0⟩ : ∃ w, w = W.alloc (.cells #[.int .i64 0, .string y.kind, .string y.field, .string y.name, .int .i64 y.value, .string y.new.name, .int .i64 y.new.bits, .int .i64 y.new.low, .string y.whole.name, .slice a y.whole.fields.length c] 45) := ⟨_, rfl⟩
  rw [← hw0] at hb0 hrow
  have cP := mig_place ks ka n kc hn (by omega) (fun k hk => by have := hv k hk; omega) y a c w0 (hz.below KindAt.abides hb0)
  rw [hd, hp, hp0.1, hp0.2] at cP
  obtain ⟨nk, hnk⟩ : ∃ x, x = y.kind := ⟨_, rfl⟩
  obtain ⟨nf, hnf⟩ : ∃ x, x = y.field := ⟨_, rfl⟩
  obtain ⟨nm, hnm⟩ : ∃ x, x = y.name := ⟨_, rfl⟩
  obtain ⟨vv, hvv⟩ : ∃ x, x = y.value := ⟨_, rfl⟩
  obtain ⟨fn, hfn⟩ : ∃ x, x = y.new.name := ⟨_, rfl⟩
  obtain ⟨fb, hfb⟩ : ∃ x, x = y.new.bits := ⟨_, rfl⟩
  obtain ⟨fo, hfo⟩ : ∃ x, x = y.new.low := ⟨_, rfl⟩
  obtain ⟨wn, hwn⟩ : ∃ x, x = y.whole.name := ⟨_, rfl⟩
  obtain ⟨wl, hwl⟩ : ∃ x, x = y.whole.fields.length := ⟨_, rfl⟩
  rw [← hnk, ← hnf, ← hnm, ← hvv, ← hfn, ← hfb, ← hfo, ← hwn, ← hwl] at hrow hw0 cP ⊢
  rw [← hwl] at hwb
  obtain ⟨g, hg⟩ : ∃ g, g = W.heap.size := ⟨_, rfl⟩
  rw [← hg] at hrow
  have HB := Lib.hid hb0
  have HROW := Lib.hid hrow
  have HW0 := Lib.hid hw0
  have HG := Lib.hid hg
  have HN := Lib.hid hn
  have H1 := Lib.hid h1
  have HV := Lib.hid hv
  have HZ := Lib.hid hz
  have HY := Lib.hid hy
  have HD := Lib.hid hd
  have HNM := Lib.hid (And.intro hnm (And.intro hfn (And.intro hfb (And.intro hfo (And.intro hwn hwl)))))
  have HWB := Lib.hid hwb
  have CP := Lib.hid cP
  clear hek hE2 hK2 hp hb0 hrow hw0 hg hn h1 hv hz hy hd hnk hnf hnm hvv hfn hfb hfo hwn hwl hwb cP
  go_enter Tryd.func32, Tryd.ntmps32
  go_wp2_with fail
  rw [← HW0.out, ← HG.out]
  refine CP.out.mono ?_
  rintro e w1 ⟨rfl, hb1⟩
  replace HB := Lib.hid (bt HB.out hb1)
  replace HROW := Lib.hid (heap_below HROW.out hb1)
  have CK := Lib.hid (kind_CopyO ks ka n kc HN.out (by have := H1.out; omega) (fun k hk => by have := HV.out k hk; omega) w1 (HZ.out.below KindAt.abides HB.out))
  obtain ⟨G, hGG⟩ : ∃ G, G = w1.heap.size := ⟨_, rfl⟩
  rw [← hGG] at CK
  have HGB := Lib.hid (show W.heap.size < G by rw [hGG]; have := lt_of_heap HROW.out; rw [HG.out] at this; exact this)
  have HGG := Lib.hid hGG
  clear hb1 CP HW0 hGG
  go_wp2_with fail
  refine CK.out.mono ?_
  rintro e w2 ⟨⟨V, rfl, hown⟩, hb2⟩
  replace HB := Lib.hid (bt HB.out (by rw [← HGG.out]; exact hb2))
  replace HROW := Lib.hid (heap_below HROW.out (by rw [← HGG.out]; exact hb2))
  have HOWN := Lib.hid hown
  have HVL := Lib.hid (show V.length = n by rw [hown.len, HN.out])
  have HGT := Lib.hid (show G < w2.heap.size from (own_lt hown.row G rfl).2)
  have HGA := Lib.hid (show g < G by rw [HG.out]; exact HGB.out)
  have r0 := cell_of_row _ _ 0 _ _ _ HROW.out
  clear hb2 CK hown HGG
  have r8 := cell_of_row _ _ 8 _ _ _ HROW.out
  have r9 := cell_of_row _ _ 9 _ _ _ HROW.out
  have hba := (Below.refl w2.heap.size w2).alloc (Nat.le_refl _) (.cells #[.string wn, .slice a wl c] 43 (0, 0))
  have hlit := kind_lit (w := w2) (k := y.whole) (a := a) (c := c) (HY.out.fs.below FieldAt.abides HB.out) HY.out.le HY.out.max HY.out.wn
  rw [← HNM.out.2.2.2.2.1, ← HNM.out.2.2.2.2.2] at hlit
  obtain ⟨g2, hg2⟩ : ∃ g, g = w2.heap.size := ⟨_, rfl⟩
  have hszx : (w2.alloc (.cells #[.string wn, .slice a wl c] 43 (0, 0))).heap.size = g2 + 1 := by rw [World.size_alloc, hg2]
  have ck2 := kind_CopyO [y.whole] (some ⟨w2.heap.size, 0, none⟩) 1 1 rfl (by omega) (fun k hk => by rw [List.mem_singleton.1 hk, ← HNM.out.2.2.2.2.2]; exact HWB.out) (w2.alloc (.cells #[.string wn, .slice a wl c] 43 (0, 0))) hlit
  obtain ⟨wa, hwa⟩ : ∃ w, w = w2.alloc (.cells #[.string wn, .slice a wl c] 43 (0, 0)) := ⟨_, rfl⟩
  rw [← hwa] at hba ck2 hszx
  rw [hszx] at ck2
  obtain ⟨g3, hg3⟩ : ∃ g, g = g2 + 1 := ⟨_, rfl⟩
  rw [← hg3, ← hg2] at ck2
  have CK2 := Lib.hid ck2
  have HWA := Lib.hid hwa
  have HG2 := Lib.hid hg2
  have HG3 := Lib.hid hg3
  have HSZX := Lib.hid hszx
  have HBA := Lib.hid hba
  clear hba hlit hg2 hszx ck2 hwa hg3
  go_wp2_with fail
  rw [← HWA.out, ← HG2.out]
  refine CK2.out.mono ?_
  rintro e w3 ⟨⟨V2, rfl, hown2⟩, hb3⟩
  have hb3' : Below wa.heap.size wa w3 := by rw [HSZX.out, ← HG3.out]; exact hb3
  have HB3 := Lib.hid (bt HB.out (bt HBA.out hb3'))
  have hn3 := HOWN.out.below (bt HBA.out hb3')
  have HOWN3 := Lib.hid hn3
  have HOWN2 := Lib.hid hown2
  have hrow3 := hn3.row
  rw [HN.out] at hrow3
  have hcell3 : CellsAt w3 (some ⟨g3, 0, none⟩) (kcells [y.whole] V2) := fun _ => ⟨_, rfl, (own_lt hown2.row g3 rfl).2, fun j u hu => by
    rw [Addr.add_lit, Nat.zero_add]
    have h1 := hown2.row.cellAt j (by have := (List.getElem?_eq_some_iff.1 hu).1; rw [kcells_len hown2.len] at this; exact this)
    rw [h1]; exact hu⟩
  have hlen3 : (kcells [y.whole] V2).length = 1 * 2 := kcells_len hown2.len
  have hone3 := kcells_one (ks := [y.whole]) hown2.one
  have hm3 : n + 1 ≤ maxLen := by have := H1.out; unfold maxLen; omega
  have hy3 : (n + 1) * 40 ≤ 140737488355328 := by have := H1.out; omega
  have hbs3 : G ≤ w3.heap.size := Nat.le_of_lt (own_lt hrow3 G rfl).2
  clear hb3 hb3' hown2 CK2 HWA r8 r9 hn3
  go_wp2_with (at_builtin; go_must (refine wpList_append_cells rfl _ _ 22 rfl G 43 (.agg #[.string ByteArray.empty, .slice none 0 0]) 2 40 Tryd.underlying22 inf_kind3 rfl (by decide) _ n (kcells ks V) rfl hrow3 (some ⟨g3, 0, none⟩) 1 1 (kcells [y.whole] V2) rfl hlen3 hcell3 hone3 hm3 hy3 hbs3 ?_))
  intro v4 w4 hrow4 hg4 hor4
  have HB4 := Lib.hid (show Below W.heap.size W w4 from HB3.out.grown hg4 HB3.out.size (fun k h => by injection h with h; have := HGB.out; show W.heap.size ≤ k; rw [← h]; exact Nat.le_of_lt this))
  rw [← kcells_append (by rw [HVL.out, HN.out])] at hrow4
  have hk2 : K2 = ks ++ [y.whole] := by rw [HK2.out]; unfold oneK movedK; rw [if_pos HD.out]
  have hrk : RK w4 (ks ++ [y.whole]) (V ++ V2) := ⟨by rw [List.length_append, List.length_append, HVL.out, HN.out, HOWN2.out.len], fun i hi hi' => by
    by_cases h : i < V.length
    · have h2 : i < ks.length := by rw [HN.out, ← HVL.out]; exact h
      rw [List.getElem_append_left h, List.getElem_append_left h2]
      exact ⟨_, HOWN3.out.rowed hg4 i h2 h, (HOWN3.out.fs i h2 h).2⟩
    · have hl1 := HVL.out
      have hl2 := HN.out
      have hl3 := HOWN2.out.len
      have hl4 : [y.whole].length = 1 := rfl
      rw [List.length_append] at hi hi'
      rw [List.getElem_append_right (by omega), List.getElem_append_right (by omega)]
      have e0 : i - V.length = 0 := by omega
      have e1 : i - ks.length = 0 := by omega
      simp only [e0, e1]
      have hf := HOWN2.out.fs 0 (Nat.lt_succ_self 0) (by rw [hl3]; exact Nat.lt_succ_self 0)
      refine ⟨g3 + 1, hf.1.grown hg4 (fun gx hgx e => ?_), hf.2⟩
      injection e with e
      have := (hf.1.lt gx hgx).1
      have h5 := HGT.out
      rw [← HG2.out] at h5
      have h6 := HG3.out
      have h7 : gx = G := e
      omega⟩
  obtain ⟨a4, c4, rfl, h4a, h4b, hsl⟩ := sl_of_rowT (by rw [List.length_append, HN.out]; rfl) hrow4 hrk
  rw [← hk2] at hsl
  have HKL := Lib.hid (show K2.length = n + 1 by rw [hk2, List.length_append, HN.out]; rfl)
  clear hrow4 hg4 hor4 hk2 hrk hrow3 hcell3 hlen3 hone3 hm3 hy3 hbs3
  have cC := kind_Check K2 a4 (n + 1) c4 HKL.out (by have := H1.out; omega) h4a h4b w4 hsl.1
  rw [← HEK.out] at cC
  have CC := Lib.hid cC
  have H4 := Lib.hid (And.intro h4a h4b)
  have HSL := Lib.hid hsl
  clear cC h4a h4b hsl
  go_wp2_with fail
  refine CC.out.mono ?_
  rintro e w5 ⟨rfl, hb5⟩
  have HB5 := Lib.hid (bt HB4.out hb5)
  have HSL5 := Lib.hid (HSL.out.below hb5)
  clear hb5 CC
  by_cases he : E2 = 0
  · have HE := Lib.hid (HE2.out.symm.trans he)
    subst he
    go_wp2_with fail
    go_ret2
    exact OneT.ok HE.out (by rw [← HK2.out]; exact HKL.out) H4.out.1 H4.out.2 (by rw [← HK2.out]; exact HSL5.out) HB5.out
  · have t1 : (E2 != 0) = true := by rw [bne_iff_ne]; exact he
    have HE := Lib.hid he
    clear he
    go_wp2_with fail
    go_ret2
    exact OneT.bad HE2.out.symm HE.out HB5.out
end Go.Proofs.YtijeninfmjhbnaaDoor
end
/- migrate.one, for moves that are 1. By program (gen_migone.py). -/
section
namespace Go.Proofs.YtijeninfmjhbnaaDoor
open Go.ChangeShapes Go.WideShapes Go.ChangeAt Go.RowKit Go.Nm Go.Mem
set_option linter.unusedVariables false
set_option maxHeartbeats 8000000 in
set_option maxRecDepth 100000 in
theorem mig_one_1 (ks : List KindV) (ka : Option Addr) (n kc : Nat) (hn : ks.length = n) (h1 : n ≤ 1000000) (hv : ∀ k ∈ ks, k.fields.length ≤ 1000000) (y : MoveV) (a : Option Addr) (c : Nat) (W : World) (hz : SlAt 2 KindAt W ka ks) (hy : MvFine W y a c) (hwb : y.whole.fields.length ≤ 4398046510976) (hp : pE ks y = 0) (hd : y.do_ = 1) :
    Calls Tryd.prog 32 #[.slice ka n kc, .agg #[.int .i64 1, .string y.kind, .string y.field, .string y.name, .int .i64 y.value, .string y.new.name, .int .i64 y.new.bits, .int .i64 y.new.low, .string y.whole.name, .slice a y.whole.fields.length c]] W (OneT ks y W) := by
  obtain ⟨E2, hE2⟩ : ∃ e, e = oneE ks y := ⟨_, rfl⟩
  obtain ⟨K2, hK2⟩ : ∃ k, k = oneK ks y := ⟨_, rfl⟩
  have hek : E2 = kindsE K2 := by rw [hE2, hK2]; unfold oneE; rw [if_neg (by rw [hp]; simp)]
  have HEK := Lib.hid hek
  have HE2 := Lib.hid hE2
  have HK2 := Lib.hid hK2
  obtain ⟨q, hq⟩ : ∃ q : Nat, pI ks y = (q : Int) := ⟨(pI ks y).toNat, by have := pI_bound hp (by rw [hd]; decide); omega⟩
  have hqn : q < n := by have := pI_bound hp (by rw [hd]; decide); rw [hq, hn] at this; omega
  have HQN := Lib.hid hqn
  have HQI := Lib.hid hq
  have hj0 : pJ ks y = 0 := by unfold pJ; rw [if_pos (Or.inr (by rw [hd]; decide))]
  have hb0 := (Below.refl W.heap.size W).alloc (Nat.le_refl _) (.cells #[.int .i64 1, .string y.kind, .string y.field, .string y.name, .int .i64 y.value, .string y.new.name, .int .i64 y.new.bits, .int .i64 y.new.low, .string y.whole.name, .slice a y.whole.fields.length c] 45)
  have hrow := heap_alloc_new W (.cells #[.int .i64 1, .string y.kind, .string y.field, .string y.name, .int .i64 y.value, .string y.new.name, .int .i64 y.new.bits, .int .i64 y.new.low, .string y.whole.name, .slice a y.whole.fields.length c] 45)
  obtain ⟨w0, hw0⟩ : ∃ w, w = W.alloc (.cells #[.int .i64 1, .string y.kind, .string y.field, .string y.name, .int .i64 y.value, .string y.new.name, .int .i64 y.new.bits, .int .i64 y.new.low, .string y.whole.name, .slice a y.whole.fields.length c] 45) := ⟨_, rfl⟩
  rw [← hw0] at hb0 hrow
  have cP := mig_place ks ka n kc hn (by omega) (fun k hk => by have := hv k hk; omega) y a c w0 (hz.below KindAt.abides hb0)
  rw [hd, hp, hq, hj0] at cP
  obtain ⟨nk, hnk⟩ : ∃ x, x = y.kind := ⟨_, rfl⟩
  obtain ⟨nf, hnf⟩ : ∃ x, x = y.field := ⟨_, rfl⟩
  obtain ⟨nm, hnm⟩ : ∃ x, x = y.name := ⟨_, rfl⟩
  obtain ⟨vv, hvv⟩ : ∃ x, x = y.value := ⟨_, rfl⟩
  obtain ⟨fn, hfn⟩ : ∃ x, x = y.new.name := ⟨_, rfl⟩
  obtain ⟨fb, hfb⟩ : ∃ x, x = y.new.bits := ⟨_, rfl⟩
  obtain ⟨fo, hfo⟩ : ∃ x, x = y.new.low := ⟨_, rfl⟩
  obtain ⟨wn, hwn⟩ : ∃ x, x = y.whole.name := ⟨_, rfl⟩
  obtain ⟨wl, hwl⟩ : ∃ x, x = y.whole.fields.length := ⟨_, rfl⟩
  rw [← hnk, ← hnf, ← hnm, ← hvv, ← hfn, ← hfb, ← hfo, ← hwn, ← hwl] at hrow hw0 cP ⊢
  rw [← hwl] at hwb
  obtain ⟨g, hg⟩ : ∃ g, g = W.heap.size := ⟨_, rfl⟩
  rw [← hg] at hrow
  have HB := Lib.hid hb0
  have HROW := Lib.hid hrow
  have HW0 := Lib.hid hw0
  have HG := Lib.hid hg
  have HN := Lib.hid hn
  have H1 := Lib.hid h1
  have HV := Lib.hid hv
  have HZ := Lib.hid hz
  have HY := Lib.hid hy
  have HD := Lib.hid hd
  have HNM := Lib.hid (And.intro hnm (And.intro hfn (And.intro hfb (And.intro hfo (And.intro hwn hwl)))))
  have HWB := Lib.hid hwb
  have CP := Lib.hid cP
  clear hek hE2 hK2 hp hb0 hrow hw0 hg hn h1 hv hz hy hd hnk hnf hnm hvv hfn hfb hfo hwn hwl hwb cP hqn hq hj0
  go_enter Tryd.func32, Tryd.ntmps32
  go_wp2_with fail
  rw [← HW0.out, ← HG.out]
  refine CP.out.mono ?_
  rintro e w1 ⟨rfl, hb1⟩
  replace HB := Lib.hid (bt HB.out hb1)
  replace HROW := Lib.hid (heap_below HROW.out hb1)
  have CK := Lib.hid (kind_CopyO ks ka n kc HN.out (by have := H1.out; omega) (fun k hk => by have := HV.out k hk; omega) w1 (HZ.out.below KindAt.abides HB.out))
  obtain ⟨G, hGG⟩ : ∃ G, G = w1.heap.size := ⟨_, rfl⟩
  rw [← hGG] at CK
  have HGB := Lib.hid (show W.heap.size < G by rw [hGG]; have := lt_of_heap HROW.out; rw [HG.out] at this; exact this)
  have HGG := Lib.hid hGG
  clear hb1 CP HW0 hGG
  go_wp2_with fail
  refine CK.out.mono ?_
  rintro e w2 ⟨⟨V, rfl, hown⟩, hb2⟩
  replace HB := Lib.hid (bt HB.out (by rw [← HGG.out]; exact hb2))
  replace HROW := Lib.hid (heap_below HROW.out (by rw [← HGG.out]; exact hb2))
  have HOWN := Lib.hid hown
  have HVL := Lib.hid (show V.length = n by rw [hown.len, HN.out])
  have HGT := Lib.hid (show G < w2.heap.size from (own_lt hown.row G rfl).2)
  have HGA := Lib.hid (show g < G by rw [HG.out]; exact HGB.out)
  have r0 := cell_of_row _ _ 0 _ _ _ HROW.out
  clear hb2 CK hown HGG
  have wq : IntKind.i64.wrap ((q : Int) + 1) = (q : Int) + 1 := by have := HQN.out; have := H1.out; rw [IntKind.wrap_i64]; omega
  have hrw := HOWN.out.row
  rw [HN.out] at hrw
  have CD := Lib.hid (del_K w2 G q n _ (kcells ks V) HQN.out H1.out (kcells_one HOWN.out.one) hrw)
  clear hrw
  go_wp2_with fail
  refine CD.out.mono ?_
  rintro e w4 ⟨v4, rfl, hrow4, hg4, _⟩
  have HB4 := Lib.hid (show Below W.heap.size W w4 from HB.out.grown hg4 HB.out.size (fun k h => by injection h with h; have := HGB.out; show W.heap.size ≤ k; rw [← h]; exact Nat.le_of_lt this))
  rw [kcells_take HOWN.out.len, kcells_drop HOWN.out.len, ← kcells_append (by rw [List.length_take, List.length_take, HOWN.out.len])] at hrow4
  have hk2 : K2 = ks.take q ++ ks.drop (q + 1) := by rw [HK2.out]; unfold oneK movedK delAt; rw [HQI.out, if_neg (show ¬ y.do_ = 0 by rw [HD.out]; decide), if_pos HD.out, Int.toNat_natCast]
  have hkl : (ks.take q ++ ks.drop (q + 1)).length = n - 1 := by have := HQN.out; rw [List.length_append, List.length_take, List.length_drop, HN.out]; omega
  have hrk : RK w4 (ks.take q ++ ks.drop (q + 1)) (V.take q ++ V.drop (q + 1)) := ⟨by have := HQN.out; rw [hkl, List.length_append, List.length_take, List.length_drop, HVL.out]; omega, fun i hi hi' => by
    have h1 := HQN.out
    have h2 := HVL.out
    have h3 := HN.out
    have l1 : (ks.take q).length = q := by rw [List.length_take]; omega
    have l2 : (V.take q).length = q := by rw [List.length_take]; omega
    by_cases h : i < q
    · rw [List.getElem_append_left (by omega), List.getElem_append_left (by omega), List.getElem_take, List.getElem_take]
      exact ⟨_, HOWN.out.rowed hg4 i (by omega) (by omega), (HOWN.out.fs i (by omega) (by omega)).2⟩
    · rw [hkl] at hi
      rw [List.getElem_append_right (by omega), List.getElem_append_right (by omega), List.getElem_drop, List.getElem_drop]
      simp only [l1, l2]
      exact ⟨_, HOWN.out.rowed hg4 (q + 1 + (i - q)) (by omega) (by omega), (HOWN.out.fs (q + 1 + (i - q)) (by omega) (by omega)).2⟩⟩
  obtain ⟨a4, c4, rfl, h4a, h4b, hsl⟩ := sl_of_rowT hkl hrow4 hrk
  rw [← hk2] at hsl
  have HKL := Lib.hid (show K2.length = n - 1 by rw [hk2, hkl])
  clear hrow4 hg4 hk2 hrk hkl CD wq
  have cC := kind_Check K2 a4 (n - 1) c4 HKL.out (by have := H1.out; omega) h4a h4b w4 hsl.1
  rw [← HEK.out] at cC
  have CC := Lib.hid cC
  have H4 := Lib.hid (And.intro h4a h4b)
  have HSL := Lib.hid hsl
  clear cC h4a h4b hsl
  go_wp2_with fail
  refine CC.out.mono ?_
  rintro e w5 ⟨rfl, hb5⟩
  have HB5 := Lib.hid (bt HB4.out hb5)
  have HSL5 := Lib.hid (HSL.out.below hb5)
  clear hb5 CC
  by_cases he : E2 = 0
  · have HE := Lib.hid (HE2.out.symm.trans he)
    subst he
    go_wp2_with fail
    go_ret2
    exact OneT.ok HE.out (by rw [← HK2.out]; exact HKL.out) H4.out.1 H4.out.2 (by rw [← HK2.out]; exact HSL5.out) HB5.out
  · have t1 : (E2 != 0) = true := by rw [bne_iff_ne]; exact he
    have HE := Lib.hid he
    clear he
    go_wp2_with fail
    go_ret2
    exact OneT.bad HE2.out.symm HE.out HB5.out
end Go.Proofs.YtijeninfmjhbnaaDoor
end
/- migrate.one, for moves that are 2. By program (gen_migone.py). -/
section
namespace Go.Proofs.YtijeninfmjhbnaaDoor
open Go.ChangeShapes Go.WideShapes Go.ChangeAt Go.RowKit Go.Nm Go.Mem
set_option linter.unusedVariables false
set_option maxHeartbeats 8000000 in
set_option maxRecDepth 100000 in
theorem mig_one_2 (ks : List KindV) (ka : Option Addr) (n kc : Nat) (hn : ks.length = n) (h1 : n ≤ 1000000) (hv : ∀ k ∈ ks, k.fields.length ≤ 1000000) (y : MoveV) (a : Option Addr) (c : Nat) (W : World) (hz : SlAt 2 KindAt W ka ks) (hy : MvFine W y a c) (hwb : y.whole.fields.length ≤ 4398046510976) (hp : pE ks y = 0) (hd : y.do_ = 2) :
    Calls Tryd.prog 32 #[.slice ka n kc, .agg #[.int .i64 2, .string y.kind, .string y.field, .string y.name, .int .i64 y.value, .string y.new.name, .int .i64 y.new.bits, .int .i64 y.new.low, .string y.whole.name, .slice a y.whole.fields.length c]] W (OneT ks y W) := by
  obtain ⟨E2, hE2⟩ : ∃ e, e = oneE ks y := ⟨_, rfl⟩
  obtain ⟨K2, hK2⟩ : ∃ k, k = oneK ks y := ⟨_, rfl⟩
  have hek : E2 = kindsE K2 := by rw [hE2, hK2]; unfold oneE; rw [if_neg (by rw [hp]; simp)]
  have HEK := Lib.hid hek
  have HE2 := Lib.hid hE2
  have HK2 := Lib.hid hK2
  obtain ⟨q, hq⟩ : ∃ q : Nat, pI ks y = (q : Int) := ⟨(pI ks y).toNat, by have := pI_bound hp (by rw [hd]; decide); omega⟩
  have hqn : q < n := by have := pI_bound hp (by rw [hd]; decide); rw [hq, hn] at this; omega
  have HQN := Lib.hid hqn
  have HQI := Lib.hid hq
  have hj0 : pJ ks y = 0 := by unfold pJ; rw [if_pos (Or.inr (by rw [hd]; decide))]
  have hb0 := (Below.refl W.heap.size W).alloc (Nat.le_refl _) (.cells #[.int .i64 2, .string y.kind, .string y.field, .string y.name, .int .i64 y.value, .string y.new.name, .int .i64 y.new.bits, .int .i64 y.new.low, .string y.whole.name, .slice a y.whole.fields.length c] 45)
  have hrow := heap_alloc_new W (.cells #[.int .i64 2, .string y.kind, .string y.field, .string y.name, .int .i64 y.value, .string y.new.name, .int .i64 y.new.bits, .int .i64 y.new.low, .string y.whole.name, .slice a y.whole.fields.length c] 45)
  obtain ⟨w0, hw0⟩ : ∃ w, w = W.alloc (.cells #[.int .i64 2, .string y.kind, .string y.field, .string y.name, .int .i64 y.value, .string y.new.name, .int .i64 y.new.bits, .int .i64 y.new.low, .string y.whole.name, .slice a y.whole.fields.length c] 45) := ⟨_, rfl⟩
  rw [← hw0] at hb0 hrow
  have cP := mig_place ks ka n kc hn (by omega) (fun k hk => by have := hv k hk; omega) y a c w0 (hz.below KindAt.abides hb0)
  rw [hd, hp, hq, hj0] at cP
  obtain ⟨nk, hnk⟩ : ∃ x, x = y.kind := ⟨_, rfl⟩
  obtain ⟨nf, hnf⟩ : ∃ x, x = y.field := ⟨_, rfl⟩
  obtain ⟨nm, hnm⟩ : ∃ x, x = y.name := ⟨_, rfl⟩
  obtain ⟨vv, hvv⟩ : ∃ x, x = y.value := ⟨_, rfl⟩
  obtain ⟨fn, hfn⟩ : ∃ x, x = y.new.name := ⟨_, rfl⟩
  obtain ⟨fb, hfb⟩ : ∃ x, x = y.new.bits := ⟨_, rfl⟩
  obtain ⟨fo, hfo⟩ : ∃ x, x = y.new.low := ⟨_, rfl⟩
  obtain ⟨wn, hwn⟩ : ∃ x, x = y.whole.name := ⟨_, rfl⟩
  obtain ⟨wl, hwl⟩ : ∃ x, x = y.whole.fields.length := ⟨_, rfl⟩
  rw [← hnk, ← hnf, ← hnm, ← hvv, ← hfn, ← hfb, ← hfo, ← hwn, ← hwl] at hrow hw0 cP ⊢
  rw [← hwl] at hwb
  obtain ⟨g, hg⟩ : ∃ g, g = W.heap.size := ⟨_, rfl⟩
  rw [← hg] at hrow
  have HB := Lib.hid hb0
  have HROW := Lib.hid hrow
  have HW0 := Lib.hid hw0
  have HG := Lib.hid hg
  have HN := Lib.hid hn
  have H1 := Lib.hid h1
  have HV := Lib.hid hv
  have HZ := Lib.hid hz
  have HY := Lib.hid hy
  have HD := Lib.hid hd
  have HNM := Lib.hid (And.intro hnm (And.intro hfn (And.intro hfb (And.intro hfo (And.intro hwn hwl)))))
  have HWB := Lib.hid hwb
  have CP := Lib.hid cP
  clear hek hE2 hK2 hp hb0 hrow hw0 hg hn h1 hv hz hy hd hnk hnf hnm hvv hfn hfb hfo hwn hwl hwb cP hqn hq hj0
  go_enter Tryd.func32, Tryd.ntmps32
  go_wp2_with fail
  rw [← HW0.out, ← HG.out]
  refine CP.out.mono ?_
  rintro e w1 ⟨rfl, hb1⟩
  replace HB := Lib.hid (bt HB.out hb1)
  replace HROW := Lib.hid (heap_below HROW.out hb1)
  have CK := Lib.hid (kind_CopyO ks ka n kc HN.out (by have := H1.out; omega) (fun k hk => by have := HV.out k hk; omega) w1 (HZ.out.below KindAt.abides HB.out))
  obtain ⟨G, hGG⟩ : ∃ G, G = w1.heap.size := ⟨_, rfl⟩
  rw [← hGG] at CK
  have HGB := Lib.hid (show W.heap.size < G by rw [hGG]; have := lt_of_heap HROW.out; rw [HG.out] at this; exact this)
  have HGG := Lib.hid hGG
  clear hb1 CP HW0 hGG
  go_wp2_with fail
  refine CK.out.mono ?_
  rintro e w2 ⟨⟨V, rfl, hown⟩, hb2⟩
  replace HB := Lib.hid (bt HB.out (by rw [← HGG.out]; exact hb2))
  replace HROW := Lib.hid (heap_below HROW.out (by rw [← HGG.out]; exact hb2))
  have HOWN := Lib.hid hown
  have HVL := Lib.hid (show V.length = n by rw [hown.len, HN.out])
  have HGT := Lib.hid (show G < w2.heap.size from (own_lt hown.row G rfl).2)
  have HGA := Lib.hid (show g < G by rw [HG.out]; exact HGB.out)
  have r0 := cell_of_row _ _ 0 _ _ _ HROW.out
  clear hb2 CK hown HGG
  have r3 := cell_of_row _ _ 3 _ _ _ HROW.out
  have hkc := kcells_get HOWN.out.len q (by rw [HN.out]; exact HQN.out)
  have hqn2 := HQN.out
  have hrw := HOWN.out.row
  rw [HN.out] at hrw
  have o1 : w2.cell? ⟨G, q * 2, none⟩ = some (.string (ks[q]'(by rw [HN.out]; exact hqn2)).name) := by rw [hrw.cellAt (q * 2) (by omega)]; exact hkc.1
  have f1 : w2.frozen? ⟨G, q * 2, none⟩ = false := hrw.frozenAt _
  obtain ⟨w4, hw4⟩ : ∃ w, w = w2.setCell ⟨G, q * 2, none⟩ (.string nm) := ⟨_, rfl⟩
  have hg4 : w2.grownBy w4 (some G) := by rw [hw4]; exact Dl.gb_set (Dl.gb_refl w2 (some G)) _ _
  have hrow4 : w4.ownsRow G 43 2 (.slice (some ⟨G, 0, none⟩) n n) n (kcells (modAt (fun k => ⟨nm, k.fields⟩) ks q) V) := by
    rw [hw4, ← kcells_name HOWN.out.len q (fun k => ⟨nm, k.fields⟩) nm (fun _ => rfl) (by rw [HN.out]; exact hqn2)]
    exact (hrw.stored (q * 2) (.string nm)).1
  have HB4 := Lib.hid (show Below W.heap.size W w4 from HB.out.grown hg4 HB.out.size (fun k h => by injection h with h; have := HGB.out; show W.heap.size ≤ k; rw [← h]; exact Nat.le_of_lt this))
  have hk2 : K2 = modAt (fun k => ⟨nm, k.fields⟩) ks q := by rw [HK2.out]; unfold oneK movedK; rw [HQI.out, if_neg (show ¬ y.do_ = 0 by rw [HD.out]; decide), if_neg (show ¬ y.do_ = 1 by rw [HD.out]; decide), if_pos HD.out, Int.toNat_natCast, HNM.out.1]
  have hrk : RK w4 (modAt (fun k => ⟨nm, k.fields⟩) ks q) V := ⟨by rw [modAt_len]; exact HOWN.out.len, fun i hi hi' => by
    have hi2 : i < ks.length := by rw [modAt_len] at hi; exact hi
    refine ⟨G + 1, ?_, ?_⟩
    · have := HOWN.out.rowed hg4 i hi2 hi'
      rw [modAt_get _ _ _ _ hi hi2]
      split
      · exact this
      · exact this
    · rw [modAt_get _ _ _ _ hi hi2]
      split
      · show nm.size ≤ _; rw [HNM.out.1]; exact HY.out.n
      · exact (HOWN.out.fs i hi2 hi').2⟩
  obtain ⟨a4, c4, ha4, h4a, h4b, hsl⟩ := sl_of_rowT (by rw [modAt_len, HN.out]) hrow4 hrk
  injection ha4 with ha4 _ hc4
  rw [← hk2] at hsl
  have HKL := Lib.hid (show K2.length = n by rw [hk2, modAt_len, HN.out])
  have HW4 := Lib.hid hw4
  subst ha4
  subst hc4
  clear hrow4 hg4 hk2 hrk hkc hw4 hrw
  have cC := kind_Check K2 (some ⟨G, 0, none⟩) n n HKL.out (by have := H1.out; omega) h4a h4b w4 hsl.1
  rw [← HEK.out] at cC
  have CC := Lib.hid cC
  have H4 := Lib.hid (And.intro h4a h4b)
  have HSL := Lib.hid hsl
  clear cC h4a h4b hsl
  go_wp2_with fail
  rw [← HW4.out]
  refine CC.out.mono ?_
  rintro e w5 ⟨rfl, hb5⟩
  have HB5 := Lib.hid (bt HB4.out hb5)
  have HSL5 := Lib.hid (HSL.out.below hb5)
  clear hb5 CC
  by_cases he : E2 = 0
  · have HE := Lib.hid (HE2.out.symm.trans he)
    subst he
    go_wp2_with fail
    go_ret2
    exact OneT.ok HE.out (by rw [← HK2.out]; exact HKL.out) H4.out.1 H4.out.2 (by rw [← HK2.out]; exact HSL5.out) HB5.out
  · have t1 : (E2 != 0) = true := by rw [bne_iff_ne]; exact he
    have HE := Lib.hid he
    clear he
    go_wp2_with fail
    go_ret2
    exact OneT.bad HE2.out.symm HE.out HB5.out
end Go.Proofs.YtijeninfmjhbnaaDoor
end
/- migrate.one, for moves that are 3. By program (gen_migone.py). -/
section
namespace Go.Proofs.YtijeninfmjhbnaaDoor
open Go.ChangeShapes Go.WideShapes Go.ChangeAt Go.RowKit Go.Nm Go.Mem
set_option linter.unusedVariables false
def F_one3 (G g BK n q fl : Nat) (fn : ByteArray) (fb fo : Int) (V0 : Value) (FV : List Value) (jq : Nat) (v : Value) (w : World) : Prop :=
  match jq with
  | 0 => v = .slice (some ⟨G, 0, none⟩) n n
  | 1 => v = .int .i64 (q : Int)
  | 2 => v = .slice (some ⟨G, 0, none⟩) n n
  | 3 => v = .int .i64 (q : Int)
  | 4 => v = .pointer (some ⟨G, q * 2, none⟩)
  | 5 => v = .pointer (some ⟨G, q * 2 + 1, none⟩)
  | 6 => v = V0
  | 7 => v = .pointer (some ⟨g, 5, none⟩)
  | 8 => v = .agg #[.string fn, .int .i64 fb, .int .i64 fo]
  | 9 => ∃ g9, v = .slice (some ⟨g9, 0, none⟩) 1 1 ∧ CellsAt w (some ⟨g9, 0, none⟩) [.string fn, .int .i64 fb, .int .i64 fo] ∧ BK ≤ g9
  | 10 => w.ownsRow (G + 1) 40 3 v (fl + 1) (FV ++ [.string fn, .int .i64 fb, .int .i64 fo])
  | 11 => v = .pointer (some ⟨G, q * 2, none⟩)
  | 12 => v = .pointer (some ⟨G, q * 2 + 1, none⟩)
  | _ => True
theorem F_one3_mono (G g BK n q fl : Nat) (fn : ByteArray) (fb fo : Int) (V0 : Value) (FV : List Value) (hV : ∀ r, V0.ownBlock = some r → r < BK) : FactsR (RG 10 V0.ownBlock) (F_one3 G g BK n q fl fn fb fo V0 FV) := ⟨by
  intro i jq v w w' hij h hb
  unfold F_one3 at h ⊢
  split at h
  all_goals first
    | exact h
    | (obtain ⟨g, e, h1, h2⟩ := h; exact ⟨g, e, cells_gbo h1 hb.gb (fun e => by have := hV g e.symm; omega), h2⟩)
    | exact own_below h (hb.1 hij)
    | trivial⟩
set_option maxHeartbeats 8000000 in
set_option maxRecDepth 100000 in
theorem mig_one_3 (ks : List KindV) (ka : Option Addr) (n kc : Nat) (hn : ks.length = n) (h1 : n ≤ 1000000) (hv : ∀ k ∈ ks, k.fields.length ≤ 1000000) (y : MoveV) (a : Option Addr) (c : Nat) (W : World) (hz : SlAt 2 KindAt W ka ks) (hy : MvFine W y a c) (hwb : y.whole.fields.length ≤ 4398046510976) (hp : pE ks y = 0) (hd : y.do_ = 3) :
    Calls Tryd.prog 32 #[.slice ka n kc, .agg #[.int .i64 3, .string y.kind, .string y.field, .string y.name, .int .i64 y.value, .string y.new.name, .int .i64 y.new.bits, .int .i64 y.new.low, .string y.whole.name, .slice a y.whole.fields.length c]] W (OneT ks y W) := by
  obtain ⟨E2, hE2⟩ : ∃ e, e = oneE ks y := ⟨_, rfl⟩
  obtain ⟨K2, hK2⟩ : ∃ k, k = oneK ks y := ⟨_, rfl⟩
  have hek : E2 = kindsE K2 := by rw [hE2, hK2]; unfold oneE; rw [if_neg (by rw [hp]; simp)]
  have HEK := Lib.hid hek
  have HE2 := Lib.hid hE2
  have HK2 := Lib.hid hK2
  obtain ⟨q, hq⟩ : ∃ q : Nat, pI ks y = (q : Int) := ⟨(pI ks y).toNat, by have := pI_bound hp (by rw [hd]; decide); omega⟩
  have hqn : q < n := by have := pI_bound hp (by rw [hd]; decide); rw [hq, hn] at this; omega
  have HQN := Lib.hid hqn
  have HQI := Lib.hid hq
  have hj0 : pJ ks y = 0 := by unfold pJ; rw [if_pos (Or.inr (by rw [hd]; decide))]
  have hb0 := (Below.refl W.heap.size W).alloc (Nat.le_refl _) (.cells #[.int .i64 3, .string y.kind, .string y.field, .string y.name, .int .i64 y.value, .string y.new.name, .int .i64 y.new.bits, .int .i64 y.new.low, .string y.whole.name, .slice a y.whole.fields.length c] 45)
  have hrow := heap_alloc_new W (.cells #[.int .i64 3, .string y.kind, .string y.field, .string y.name, .int .i64 y.value, .string y.new.name, .int .i64 y.new.bits, .int .i64 y.new.low, .string y.whole.name, .slice a y.whole.fields.length c] 45)
  obtain ⟨w0, hw0⟩ : ∃ w, w = W.alloc (.cells #[.int .i64 3, .string y.kind, .string y.field, .string y.name, .int .i64 y.value, .string y.new.name, .int .i64 y.new.bits, .int .i64 y.new.low, .string y.whole.name, .slice a y.whole.fields.length c] 45) := ⟨_, rfl⟩
  rw [← hw0] at hb0 hrow
  have cP := mig_place ks ka n kc hn (by omega) (fun k hk => by have := hv k hk; omega) y a c w0 (hz.below KindAt.abides hb0)
  rw [hd, hp, hq, hj0] at cP
  obtain ⟨nk, hnk⟩ : ∃ x, x = y.kind := ⟨_, rfl⟩
  obtain ⟨nf, hnf⟩ : ∃ x, x = y.field := ⟨_, rfl⟩
  obtain ⟨nm, hnm⟩ : ∃ x, x = y.name := ⟨_, rfl⟩
  obtain ⟨vv, hvv⟩ : ∃ x, x = y.value := ⟨_, rfl⟩
  obtain ⟨fn, hfn⟩ : ∃ x, x = y.new.name := ⟨_, rfl⟩
  obtain ⟨fb, hfb⟩ : ∃ x, x = y.new.bits := ⟨_, rfl⟩
  obtain ⟨fo, hfo⟩ : ∃ x, x = y.new.low := ⟨_, rfl⟩
  obtain ⟨wn, hwn⟩ : ∃ x, x = y.whole.name := ⟨_, rfl⟩
  obtain ⟨wl, hwl⟩ : ∃ x, x = y.whole.fields.length := ⟨_, rfl⟩
  rw [← hnk, ← hnf, ← hnm, ← hvv, ← hfn, ← hfb, ← hfo, ← hwn, ← hwl] at hrow hw0 cP ⊢
  rw [← hwl] at hwb
  obtain ⟨g, hg⟩ : ∃ g, g = W.heap.size := ⟨_, rfl⟩
  rw [← hg] at hrow
  have HB := Lib.hid hb0
  have HROW := Lib.hid hrow
  have HW0 := Lib.hid hw0
  have HG := Lib.hid hg
  have HN := Lib.hid hn
  have H1 := Lib.hid h1
  have HV := Lib.hid hv
  have HZ := Lib.hid hz
  have HY := Lib.hid hy
  have HD := Lib.hid hd
  have HNM := Lib.hid (And.intro hnm (And.intro hfn (And.intro hfb (And.intro hfo (And.intro hwn hwl)))))
  have HWB := Lib.hid hwb
  have CP := Lib.hid cP
  clear hek hE2 hK2 hp hb0 hrow hw0 hg hn h1 hv hz hy hd hnk hnf hnm hvv hfn hfb hfo hwn hwl hwb cP hqn hq hj0
  go_enter Tryd.func32, Tryd.ntmps32
  go_wp2_with fail
  rw [← HW0.out, ← HG.out]
  refine CP.out.mono ?_
  rintro e w1 ⟨rfl, hb1⟩
  replace HB := Lib.hid (bt HB.out hb1)
  replace HROW := Lib.hid (heap_below HROW.out hb1)
  have CK := Lib.hid (kind_CopyO ks ka n kc HN.out (by have := H1.out; omega) (fun k hk => by have := HV.out k hk; omega) w1 (HZ.out.below KindAt.abides HB.out))
  obtain ⟨G, hGG⟩ : ∃ G, G = w1.heap.size := ⟨_, rfl⟩
  rw [← hGG] at CK
  have HGB := Lib.hid (show W.heap.size < G by rw [hGG]; have := lt_of_heap HROW.out; rw [HG.out] at this; exact this)
  have HGG := Lib.hid hGG
  clear hb1 CP HW0 hGG
  go_wp2_with fail
  refine CK.out.mono ?_
  rintro e w2 ⟨⟨V, rfl, hown⟩, hb2⟩
  replace HB := Lib.hid (bt HB.out (by rw [← HGG.out]; exact hb2))
  replace HROW := Lib.hid (heap_below HROW.out (by rw [← HGG.out]; exact hb2))
  have HOWN := Lib.hid hown
  have HVL := Lib.hid (show V.length = n by rw [hown.len, HN.out])
  have HGT := Lib.hid (show G < w2.heap.size from (own_lt hown.row G rfl).2)
  have HGA := Lib.hid (show g < G by rw [HG.out]; exact HGB.out)
  have r0 := cell_of_row _ _ 0 _ _ _ HROW.out
  clear hb2 CK hown HGG
  have hqn2 := HQN.out
  have hqk : q < ks.length := by rw [HN.out]; exact hqn2
  have hqv : q < V.length := by rw [HVL.out]; exact hqn2
  obtain ⟨k, hk⟩ : ∃ k, k = ks[q] := ⟨_, rfl⟩
  obtain ⟨vq, hvq⟩ : ∃ v, v = V[q] := ⟨_, rfl⟩
  have hfo := (HOWN.out.fs q hqk hqv).1
  rw [← hk, ← hvq] at hfo
  obtain ⟨fa, fc, hsh, hfl1, hfl2, hfsl, hfar⟩ := hfo.sl
  obtain ⟨fl, hfl⟩ : ∃ m, m = k.fields.length := ⟨_, rfl⟩
  rw [← hfl] at hsh hfl1
  subst hsh
  have hflb : fl ≤ 1000000 := by rw [hfl]; exact HV.out k (by rw [hk]; exact List.getElem_mem _)
  have hrw := HOWN.out.row
  rw [HN.out] at hrw
  have hkc := kcells_get HOWN.out.len q hqk
  have o1 : w2.cell? ⟨G, q * 2 + 1, none⟩ = some (.slice fa fl fc) := by rw [hrw.cellAt (q * 2 + 1) (by omega), hkc.2, hvq]
  have f1 : w2.frozen? ⟨G, q * 2 + 1, none⟩ = false := hrw.frozenAt _
  have HVQ := Lib.hid hvq
  have HKQ := Lib.hid hk
  have HFL := Lib.hid hfl
  have HFO := Lib.hid hfo
  have HFLB := Lib.hid hflb
  obtain ⟨V0, hV0⟩ : ∃ v, v = Value.slice fa fl fc := ⟨_, rfl⟩
  obtain ⟨FV, hFV⟩ : ∃ l, l = fvals k.fields := ⟨_, rfl⟩
  have hfo1 := hfo.1
  rw [← hfl, ← hV0, ← hFV] at hfo1
  rw [← hV0] at o1 hfo
  have HFV := Lib.hid hfo1
  have O1 := Lib.hid o1
  have HV0 := Lib.hid hV0
  have HFVE := Lib.hid hFV
  have HR5 := Lib.hid (show CellsK w2 g 5 [.string fn, .int .i64 fb, .int .i64 fo] from fun j u hu => by
    match j with
    | 0 => cases hu; exact cell_of_row _ _ 5 _ _ _ HROW.out
    | 1 => cases hu; exact cell_of_row _ _ 6 _ _ _ HROW.out
    | 2 => cases hu; exact cell_of_row _ _ 7 _ _ _ HROW.out
    | j + 3 => simp at hu)
  have HLO := Lib.hid (fun r (h : V0.ownBlock = some r) => own_lt hfo1 r h)
  have HVB := Lib.hid (fun r (h : V0.ownBlock = some r) => (own_lt hfo1 r h).2)
  have HXN := Lib.hid (show some G ≠ V0.ownBlock from fun e => by have := (HLO.out G e.symm).1; omega)
  have HKN := Lib.hid (show some g ≠ V0.ownBlock from fun e => by have := (HLO.out g e.symm).1; have := HGA.out; omega)
  have HKS := Lib.hid (Nat.le_refl w2.heap.size)
  have HGS := Lib.hid (show G + 1 ≤ w2.heap.size from HGT.out)
  have HLE := Lib.hid (show fl + 1 ≤ maxLen ∧ (fl + 1) * 32 ≤ 140737488355328 by unfold maxLen; omega)
  clear hqn2 hfl1 hfl2 hfsl hfar hflb hrw hkc f1 hfo hfo1 hFV hV0 hk hvq hfl
  go_wp2_with fail
  refine wp_region_facts_r rfl 13 (by kernel_rfl) (fun a b => World.grownBy a b V0.ownBlock) (gb_drew _ _) (fun _ _ _ h h2 => h.trans h2) (RG 10 V0.ownBlock) RG.sub (F_one3 G g w2.heap.size n q fl fn fb fo V0 FV) (F_one3_mono G g w2.heap.size n q fl fn fb fo V0 FV HVB.out) 10 (fun w => Below w2.heap.size w2 w) ((Below.refl w2.heap.size w2).drew) (fun i a b hi h ho => ho.trans ((h.1 hi).mono ho.size)) ?_ ?_
  · refine ⟨?_, ?_, ?_, ?_, ?_, ?_, ?_, ?_, ?_, ?_, ?_, ?_, ?_, trivial⟩
    · intro vs w' F hb hd hF hl hT hq
      have e := (hF 9).trans (look_out _ 9 _ _ (by kernel_rfl))
      exact one_move _ rfl (by first | exact Or.inl rfl | exact Or.inr rfl) ⟨_, rfl, RG.same _ _ _ _, e⟩
    · intro vs w' F hb hd hF hl hT hq
      have e := (hF 6).trans (look_out _ 6 _ _ (by kernel_rfl))
      exact one_move _ rfl (by first | exact Or.inl rfl | exact Or.inr rfl) ⟨_, rfl, RG.same _ _ _ _, e⟩
    · intro vs w' F hb hd hF hl hT hq
      have e := (hF 9).trans (look_out _ 9 _ _ (by kernel_rfl))
      exact one_move _ rfl (by first | exact Or.inl rfl | exact Or.inr rfl) ⟨_, rfl, RG.same _ _ _ _, e⟩
    · intro vs w' F hb hd hF hl hT hq
      have e := (hF 6).trans (look_out _ 6 _ _ (by kernel_rfl))
      exact one_move _ rfl (by first | exact Or.inl rfl | exact Or.inr rfl) ⟨_, rfl, RG.same _ _ _ _, e⟩
    · intro vs w' F hb hd hF hl hT hq
      have ex := ((hF 52).trans (look_at _ 52 2 _ _ (by kernel_rfl) (by kernel_rfl) hl)).trans (dep_of (Fact := F_one3 G g w2.heap.size n q fl fn fb fo V0 FV) hd 2 (by kernel_rfl))
      have ey := ((hF 53).trans (look_at _ 53 3 _ _ (by kernel_rfl) (by kernel_rfl) hl)).trans (dep_of (Fact := F_one3 G g w2.heap.size n q fl fn fb fo V0 FV) hd 3 (by kernel_rfl))
      exact one_index 22 _ _ rfl rfl (.slice (some ⟨G, 0, none⟩) n n) (.int .i64 (q : Int)) (.pointer (some ⟨G, q * 2, none⟩)) ex ey (fun w => by have h := rg_idx Tryd.underlying22 (show (Tryd.prog.info? 43).map (·.size) = some 2 by kernel_rfl) (G) (0) (n) (n) (q) (HQN.out) w; rw [Nat.zero_add] at h; exact h) ⟨_, rfl, RG.same _ _ _ _, rfl⟩
    · intro vs w' F hb hd hF hl hT hq
      have e := ((hF 54).trans (look_at _ 54 4 _ _ (by kernel_rfl) (by kernel_rfl) hl)).trans (dep_of (Fact := F_one3 G g w2.heap.size n q fl fn fb fo V0 FV) hd 4 (by kernel_rfl))
      exact one_field _ _ _ rfl rfl _ _ e (q * 2 + 1) (fun w => by kernel_rfl) ⟨_, rfl, RG.same _ _ _ _, rfl⟩
    · intro vs w' F hb hd hF hl hT hq
      have e := ((hF 55).trans (look_at _ 55 5 _ _ (by kernel_rfl) (by kernel_rfl) hl)).trans (dep_of (Fact := F_one3 G g w2.heap.size n q fl fn fb fo V0 FV) hd 5 (by kernel_rfl))
      exact one_load _ _ rfl rfl _ _ e (World.grownBy.cell hb O1.out HXN.out) (by kernel_rfl) ⟨_, rfl, RG.same _ _ _ _, rfl⟩
    · intro vs w' F hb hd hF hl hT hq
      have e := (hF 3).trans (look_out _ 3 _ _ (by kernel_rfl))
      exact one_field _ _ _ rfl rfl _ _ e (5) (fun w => by kernel_rfl) ⟨_, rfl, RG.same _ _ _ _, rfl⟩
    · intro vs w' F hb hd hF hl hT hq
      have e := ((hF 57).trans (look_at _ 57 7 _ _ (by kernel_rfl) (by kernel_rfl) hl)).trans (dep_of (Fact := F_one3 G g w2.heap.size n q fl fn fb fo V0 FV) hd 7 (by kernel_rfl))
      exact rg_load 40 _ rfl rfl (g) (5) [.string fn, .int .i64 fb, .int .i64 fo] e (cellsK_gb HR5.out hb HKN.out) _ Tryd.underlying40 rfl (by kernel_rfl) ⟨_, rfl, RG.same _ _ _ _, rfl⟩
    · intro vs w' F hb hd hF hl hT hq
      have ex := (((hF 58).trans (look_at _ 58 8 _ _ (by kernel_rfl) (by kernel_rfl) hl)).trans (dep_of (Fact := F_one3 G g w2.heap.size n q fl fn fb fo V0 FV) hd 8 (by kernel_rfl)))
      exact rg_slice_fld 41 40 _ rfl rfl fn fb fo ex Tryd.underlying41 (by kernel_rfl) ⟨_, rfl, RG.below (by decide) ((Below.refl _ _).alloc (Nat.le_refl _) _), _, rfl, new_cells w' #[.string fn, .int .i64 fb, .int .i64 fo] 40, Nat.le_trans HKS.out hb.size⟩
    · intro vs w' F hb hd hF hl hT hq
      obtain ⟨g9, hv9, hcl, hg9⟩ := (dep_of (Fact := F_one3 G g w2.heap.size n q fl fn fb fo V0 FV) hd 9 (by kernel_rfl))
      have g0 := (((hF 56).trans (look_at _ 56 6 _ _ (by kernel_rfl) (by kernel_rfl) hl)).trans (dep_of (Fact := F_one3 G g w2.heap.size n q fl fn fb fo V0 FV) hd 6 (by kernel_rfl)))
      have g4 := ((hF 59).trans (look_at _ 59 9 _ _ (by kernel_rfl) (by kernel_rfl) hl)).trans hv9
      have hbw := hq rfl
      refine wpList_append_cells rfl _ _ 41 rfl (G + 1) 40 (.agg #[.string ByteArray.empty, .int .i64 0, .int .i64 0]) 3 32 Tryd.underlying41 inf_fld3 rfl (by decide) V0 fl FV g0 (own_below HFV.out hbw) (some ⟨g9, 0, none⟩) 1 1 [.string fn, .int .i64 fb, .int .i64 fo] g4 rfl hcl (by simp [Value.oneCell']) HLE.out.1 HLE.out.2 (Nat.le_trans HGS.out hbw.size) ?_
      intro v2 w2x hown2 hg2 hor2
      exact ⟨_, rfl, RG.at_ rfl hg2, hown2⟩
    · intro vs w' F hb hd hF hl hT hq
      have ex := ((hF 50).trans (look_at _ 50 0 _ _ (by kernel_rfl) (by kernel_rfl) hl)).trans (dep_of (Fact := F_one3 G g w2.heap.size n q fl fn fb fo V0 FV) hd 0 (by kernel_rfl))
      have ey := ((hF 51).trans (look_at _ 51 1 _ _ (by kernel_rfl) (by kernel_rfl) hl)).trans (dep_of (Fact := F_one3 G g w2.heap.size n q fl fn fb fo V0 FV) hd 1 (by kernel_rfl))
      exact one_index 22 _ _ rfl rfl (.slice (some ⟨G, 0, none⟩) n n) (.int .i64 (q : Int)) (.pointer (some ⟨G, q * 2, none⟩)) ex ey (fun w => by have h := rg_idx Tryd.underlying22 (show (Tryd.prog.info? 43).map (·.size) = some 2 by kernel_rfl) (G) (0) (n) (n) (q) (HQN.out) w; rw [Nat.zero_add] at h; exact h) ⟨_, rfl, RG.same _ _ _ _, rfl⟩
    · intro vs w' F hb hd hF hl hT hq
      have e := ((hF 61).trans (look_at _ 61 11 _ _ (by kernel_rfl) (by kernel_rfl) hl)).trans (dep_of (Fact := F_one3 G g w2.heap.size n q fl fn fb fo V0 FV) hd 11 (by kernel_rfl))
      exact one_field _ _ _ rfl rfl _ _ e (q * 2 + 1) (fun w => by kernel_rfl) ⟨_, rfl, RG.same _ _ _ _, rfl⟩
  · intro vs8 W8 hl hb hI
    have i10 : W8.ownsRow (G + 1) 40 3 (vs8.getD 10 undef) (fl + 1) (FV ++ [.string fn, .int .i64 fb, .int .i64 fo]) := hI 10 (by omega)
    have i12 : vs8.getD 12 undef = .pointer (some ⟨G, q * 2 + 1, none⟩) := hI 12 (by omega)
    obtain ⟨x0, x1, x2, x3, x4, x5, x6, x7, x8, x9, x10, x11, x12, x13, hvs⟩ := list14 hl
    subst hvs
    replace i10 : W8.ownsRow (G + 1) 40 3 x10 (fl + 1) (FV ++ [.string fn, .int .i64 fb, .int .i64 fo]) := i10
    replace i12 : x12 = .pointer (some ⟨G, q * 2 + 1, none⟩) := i12
    subst i12
    have hgq : w2.grownBy W8 V[q].ownBlock := by rw [← HVQ.out, ← HV0.out]; exact hb
    have hrk8 := HOWN.out.rowk q hqv hgq
    have hfx : FOwn W8 (G + 1) x10 (k.fields ++ [y.new]) := ⟨by
      rw [List.length_append, List.length_singleton, ← HFL.out, fvals_push, ← HFVE.out, ← HNM.out.2.1, ← HNM.out.2.2.1, ← HNM.out.2.2.2.1]; exact i10, fun f hf => by
      rcases List.mem_append.1 hf with h | h
      · exact HFO.out.2 f h
      · rcases List.mem_cons.1 h with rfl | h
        · exact HY.out.nn
        · cases h⟩
    obtain ⟨f9, c9, hx9, _, _, _, _⟩ := hfx.sl
    obtain ⟨m9, hm9⟩ : ∃ m, m = (k.fields ++ [y.new]).length := ⟨_, rfl⟩
    rw [← hm9] at hx9
    clear hm9
    have hst := HOWN.out.stored (w' := W8) HN.out q hqk hqv x10 (fun l => l ++ [y.new]) hrk8 (by rw [← HKQ.out]; exact hfx) (fun i hi hi' hne => HOWN.out.elsed q hqv hgq i hi hi' hne)
    have hrk8n := hrk8
    rw [HN.out] at hrk8n
    have c8 := hrk8n.cellAt (q * 2 + 1) (by have := HQN.out; omega)
    obtain ⟨z8, hz8⟩ : ∃ z, W8.cell? ⟨G, q * 2 + 1, none⟩ = some z := ⟨_, c8.trans (kcells_get HOWN.out.len q hqk).2⟩
    have f8 : W8.frozen? ⟨G, q * 2 + 1, none⟩ = false := hrk8n.frozenAt _
    obtain ⟨w4, hw4⟩ : ∃ w, w = W8.setCell ⟨G, q * 2 + 1, none⟩ x10 := ⟨_, rfl⟩
    rw [← hw4] at hst
    have HB4 := Lib.hid (show Below W.heap.size W w4 by
      rw [hw4]
      exact (HB.out.grown hb HB.out.size (fun r h => by have := (HLO.out r h).1; have := HGB.out; omega)).setCell (Nat.le_of_lt HGB.out) _)
    have hk2 : K2 = modAt (fun k => ⟨k.name, k.fields ++ [y.new]⟩) ks q := by rw [HK2.out]; unfold oneK movedK fldM; rw [HQI.out, if_neg (show ¬ y.do_ = 0 by rw [HD.out]; decide), if_neg (show ¬ y.do_ = 1 by rw [HD.out]; decide), if_neg (show ¬ y.do_ = 2 by rw [HD.out]; decide), Int.toNat_natCast]; simp only [if_pos HD.out]
    obtain ⟨a4, c4, ha4, h4a, h4b, hsl⟩ := sl_of_rowT (by rw [modAt_len, HN.out]) (by have := hst.1; rw [HN.out] at this; exact this) hst.2
    injection ha4 with ha4 _ hc4
    rw [← hk2] at hsl
    have HKL := Lib.hid (show K2.length = n by rw [hk2, modAt_len, HN.out])
    rw [hx9] at hw4
    have HW4 := Lib.hid hw4
    subst ha4
    subst hc4
    rw [hx9]
    clear hI hl hb i10 hgq hrk8 hfx hst c8 hk2 hw4 hx9 o1 hrk8n
    simp only [fillAll, Act.put, List.setIfInBounds_toArray, List.set_cons_succ, List.set_cons_zero, List.drop_succ_cons, List.drop_zero]
    have cC := kind_Check K2 (some ⟨G, 0, none⟩) n n HKL.out (by have := H1.out; omega) h4a h4b w4 hsl.1
    rw [← HEK.out] at cC
    have CC := Lib.hid cC
    have H4 := Lib.hid (And.intro h4a h4b)
    have HSL := Lib.hid hsl
    clear cC h4a h4b hsl
    go_wp2_with fail
    rw [← HW4.out]
    refine CC.out.mono ?_
    rintro e w5 ⟨rfl, hb5⟩
    have HB5 := Lib.hid (bt HB4.out hb5)
    have HSL5 := Lib.hid (HSL.out.below hb5)
    clear hb5 CC
    by_cases he : E2 = 0
    · have HE := Lib.hid (HE2.out.symm.trans he)
      subst he
      go_wp2_with fail
      go_ret2
      exact OneT.ok HE.out (by rw [← HK2.out]; exact HKL.out) H4.out.1 H4.out.2 (by rw [← HK2.out]; exact HSL5.out) HB5.out
    · have t1 : (E2 != 0) = true := by rw [bne_iff_ne]; exact he
      have HE := Lib.hid he
      clear he
      go_wp2_with fail
      go_ret2
      exact OneT.bad HE2.out.symm HE.out HB5.out
end Go.Proofs.YtijeninfmjhbnaaDoor
end
