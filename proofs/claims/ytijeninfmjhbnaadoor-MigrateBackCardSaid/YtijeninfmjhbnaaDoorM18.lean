/- Lemmas for the law MigrateBack: RefUndo6. No conditions. -/
import Derived.Test.YtijeninfmjhbnaaDoorM10
import Derived.Test.YtijeninfmjhbnaaDoorM17
import Derived.Test.YtijeninfmjhbnaaDoorM13
/- tourref3.Undone, for a field's bits. By program (gen_refundo.py). -/
section
namespace Go.Proofs.YtijeninfmjhbnaaDoor
open Go.ChangeShapes Go.WideShapes Go.ChangeAt Go.RowKit Go.Nm Go.Mem Go.Maps
set_option linter.unusedVariables false
theorem list19 {α : Type} {vs : List α} (h : vs.length = 19) : ∃ x0 x1 x2 x3 x4 x5 x6 x7 x8 x9 x10 x11 x12 x13 x14 x15 x16 x17 x18, vs = [x0, x1, x2, x3, x4, x5, x6, x7, x8, x9, x10, x11, x12, x13, x14, x15, x16, x17, x18] := by
  obtain ⟨x0, t0, rfl, h0⟩ := cons_of h
  obtain ⟨x1, t1, rfl, h1⟩ := cons_of h0
  obtain ⟨x2, t2, rfl, h2⟩ := cons_of h1
  obtain ⟨x3, t3, rfl, h3⟩ := cons_of h2
  obtain ⟨x4, t4, rfl, h4⟩ := cons_of h3
  obtain ⟨x5, t5, rfl, h5⟩ := cons_of h4
  obtain ⟨x6, t6, rfl, h6⟩ := cons_of h5
  obtain ⟨x7, t7, rfl, h7⟩ := cons_of h6
  obtain ⟨x8, t8, rfl, h8⟩ := cons_of h7
  obtain ⟨x9, t9, rfl, h9⟩ := cons_of h8
  obtain ⟨x10, t10, rfl, h10⟩ := cons_of h9
  obtain ⟨x11, t11, rfl, h11⟩ := cons_of h10
  obtain ⟨x12, t12, rfl, h12⟩ := cons_of h11
  obtain ⟨x13, t13, rfl, h13⟩ := cons_of h12
  obtain ⟨x14, t14, rfl, h14⟩ := cons_of h13
  obtain ⟨x15, t15, rfl, h15⟩ := cons_of h14
  obtain ⟨x16, t16, rfl, h16⟩ := cons_of h15
  obtain ⟨x17, t17, rfl, h17⟩ := cons_of h16
  obtain ⟨x18, t18, rfl, h18⟩ := cons_of h17
  exact ⟨x0, x1, x2, x3, x4, x5, x6, x7, x8, x9, x10, x11, x12, x13, x14, x15, x16, x17, x18, by rw [List.eq_nil_of_length_eq_zero h18]⟩
def F_undt (g g4 b8 b9 b10 : Nat) (nk nf f1 : ByteArray) (f2 f3 fb fo n1 n2 hf : Int) (HH : Bool) (jq : Nat) (v : Value) (w : World) : Prop :=
  match jq with
  | 0 => v = .agg #[.int .i64 6, .string nk, .string nf, .string (⟨#[]⟩ : ByteArray), .int .i64 0, .string (⟨#[]⟩ : ByteArray), .int .i64 f2, .int .i64 f3, .string (⟨#[]⟩ : ByteArray), .slice none 0 0]
  | 1 => v = .agg #[.string f1, .int .i64 fb, .int .i64 fo]
  | 2 => v = .pointer (some ⟨b9, 2, none⟩)
  | 3 => v = .int .i64 f3
  | 4 => v = .int .i64 n1
  | 5 => v = .pointer (some ⟨b9, 2, none⟩)
  | 6 => v = .int .i64 f3
  | 7 => v = .bool true
  | 8 => v = .bool true
  | 9 => v = .agg #[.string f1, .int .i64 fb, .int .i64 fo]
  | 10 => v = .agg #[.string f1, .int .i64 f2, .int .i64 f3]
  | 11 => v = .int .i64 hf
  | 12 => v = .int .i64 n2
  | 13 => v = .agg #[.string f1, .int .i64 f2, .int .i64 f3]
  | 14 => v = .int .i64 hf
  | 15 => v = .bool HH
  | 16 => v = .bool HH
  | 17 => w.heap[g4]? = some (.cells #[.int .i64 6, .string nk, .string nf, .string (⟨#[]⟩ : ByteArray), .int .i64 0, .string (⟨#[]⟩ : ByteArray), .int .i64 f2, .int .i64 f3, .string (⟨#[]⟩ : ByteArray), .slice none 0 0] 45 (0, 0))
  | _ => True
theorem F_undt_mono (g g4 b8 b9 b10 : Nat) (nk nf f1 : ByteArray) (f2 f3 fb fo n1 n2 hf : Int) (HH : Bool) : FactsR (RG 17 (some g4)) (F_undt g g4 b8 b9 b10 nk nf f1 f2 f3 fb fo n1 n2 hf HH) := ⟨by
  intro i jq v w w' hij h hb
  unfold F_undt at h ⊢
  split at h
  all_goals first
    | exact h
    | exact heap_below h (hb.1 hij)
    | trivial⟩
def F_undf (g g4 b8 b9 b10 : Nat) (nk nf f1 : ByteArray) (f2 f3 fb fo n1 n2 hf : Int) (jq : Nat) (v : Value) (w : World) : Prop :=
  match jq with
  | 0 => v = .agg #[.int .i64 6, .string nk, .string nf, .string (⟨#[]⟩ : ByteArray), .int .i64 0, .string (⟨#[]⟩ : ByteArray), .int .i64 f2, .int .i64 f3, .string (⟨#[]⟩ : ByteArray), .slice none 0 0]
  | 1 => v = .agg #[.string f1, .int .i64 fb, .int .i64 fo]
  | 2 => v = .pointer (some ⟨b9, 2, none⟩)
  | 3 => v = .int .i64 f3
  | 4 => v = .int .i64 n1
  | 5 => v = .pointer (some ⟨b9, 2, none⟩)
  | 6 => v = .int .i64 f3
  | 7 => v = .bool false
  | 8 => v = .bool false
  | 9 => v = undef
  | 10 => v = undef
  | 11 => v = undef
  | 12 => v = undef
  | 13 => v = undef
  | 14 => v = undef
  | 15 => v = undef
  | 16 => v = .bool false
  | 17 => w.heap[g4]? = some (.cells #[.int .i64 6, .string nk, .string nf, .string (⟨#[]⟩ : ByteArray), .int .i64 0, .string (⟨#[]⟩ : ByteArray), .int .i64 f2, .int .i64 f3, .string (⟨#[]⟩ : ByteArray), .slice none 0 0] 45 (0, 0))
  | _ => True
theorem F_undf_mono (g g4 b8 b9 b10 : Nat) (nk nf f1 : ByteArray) (f2 f3 fb fo n1 n2 hf : Int) : FactsR (RG 17 (some g4)) (F_undf g g4 b8 b9 b10 nk nf f1 f2 f3 fb fo n1 n2 hf) := ⟨by
  intro i jq v w w' hij h hb
  unfold F_undf at h ⊢
  split at h
  all_goals first
    | exact h
    | exact heap_below h (hb.1 hij)
    | trivial⟩
set_option maxHeartbeats 8000000 in
set_option maxRecDepth 100000 in
theorem ref_undo_6 (ks : List KindV) (ka : Option Addr) (n kc : Nat) (hn : ks.length = n) (h1 : n ≤ 1048576) (hv : ∀ k ∈ ks, k.fields.length ≤ 1048576) (y : MoveV) (a : Option Addr) (c : Nat) (W : World) (hz : SlAt 2 KindAt W ka ks) (hk0 : kindsE ks = 0) (he : oneE ks y = 0) (hd : y.do_ = 6) :
    Calls Tryd.prog 12 #[.slice ka n kc, .agg #[.int .i64 6, .string y.kind, .string y.field, .string y.name, .int .i64 y.value, .string y.new.name, .int .i64 y.new.bits, .int .i64 y.new.low, .string y.whole.name, .slice a y.whole.fields.length c]] W (InvPost ks y W) := by
  have hp := (oneE_kinds he).1
  obtain ⟨q, hq⟩ : ∃ q : Nat, pI ks y = (q : Int) := ⟨(pI ks y).toNat, by have := pI_bound hp (by rw [hd]; decide); omega⟩
  have hqn : q < n := by have := pI_bound hp (by rw [hd]; decide); rw [hq, hn] at this; omega
  obtain ⟨j, hj⟩ : ∃ j : Nat, pJ ks y = (j : Int) := ⟨(pJ ks y).toNat, by have := pJ_bound hp (by rw [hd]; decide); omega⟩
  have hjn : ∀ h : q < ks.length, j < (ks[q]'h).fields.length := fun h => by
    have := pJ_bound hp (by rw [hd]; decide)
    rw [hj, hq, Int.toNat_natCast, List.getD_eq_getElem?_getD, List.getElem?_eq_getElem h] at this
    simp only [Option.getD_some] at this
    omega
  have hqk : q < ks.length := by rw [hn]; exact hqn
  have hjk := hjn hqk
  obtain ⟨fv, hfv⟩ : ∃ f, f = fieldAt ks y := ⟨_, rfl⟩
  have hfe : fv = ks[q].fields[j] := by rw [hfv]; unfold fieldAt; rw [hq, hj, Int.toNat_natCast, Int.toNat_natCast, getD_is hqk, getD_is hjk]
  obtain ⟨hf1, hf2⟩ := retype_ok hk0 he hd
  rw [← hfv] at hf1 hf2
  obtain ⟨f1, hf1e⟩ : ∃ x, x = fv.name := ⟨_, rfl⟩
  obtain ⟨f2, hf2e⟩ : ∃ x, x = fv.bits := ⟨_, rfl⟩
  obtain ⟨f3, hf3e⟩ : ∃ x, x = fv.low := ⟨_, rfl⟩
  have OKF := Lib.hid (ok_bounds hf1)
  have OKG := Lib.hid (ok_bounds hf2)
  rw [← hf1e, ← hf2e, ← hf3e] at OKF
  simp only at OKG
  rw [← hf1e] at OKG
  have HQN := Lib.hid hqn
  obtain ⟨x, hxa, _, _⟩ := hz (by omega)
  have hzx := hz
  rw [hxa] at hzx
  obtain ⟨kb, ko, hkx, fa, fc, hck, hd1, hd2, hd3, hfsl⟩ := kind_cells hzx q hqk
  clear hd1 hd2 hd3
  obtain ⟨x2, hfa, hd1, hd2⟩ := hfsl (by omega)
  clear hd1 hd2
  rw [hfa] at hfsl
  obtain ⟨fb2, fo2, hfx, hcf⟩ := fld_cells hfsl j hjk
  have hfnm := flds_names hfsl ks[q].fields[j] (List.getElem_mem _)
  rw [← hfe] at hcf hfnm
  rw [← hf1e, ← hf2e, ← hf3e] at hcf
  rw [← hf1e] at hfnm
  obtain ⟨kn, hkn⟩ : ∃ x, x = ks[q].name := ⟨_, rfl⟩
  obtain ⟨kl, hkl⟩ : ∃ x, x = ks[q].fields.length := ⟨_, rfl⟩
  rw [← hkn, ← hkl, hfa, hfx] at hck
  have hjl : j < kl := by rw [hkl]; exact hjk
  rw [hkx] at hxa
  subst hxa
  have HCK := Lib.hid hck
  have HCF := Lib.hid hcf
  have HFN := Lib.hid hfnm
  clear hfsl hzx hfa hfx hkn hkl hkx hck hcf hfnm hf1 hf2 hqk hjk hjn hfe
  have hiq : iK ks y = (q : Int) := by have h := hq; unfold pI at h; rw [if_neg (by rw [hd]; rw [hp]; decide)] at h; exact h
  have hij : jW ks y = (j : Int) := by have h := hj; unfold pJ at h; rw [if_neg (by rw [hd]; rw [hp]; decide)] at h; unfold jW; rw [hiq, if_neg (by omega)]; exact h
  have hV : invV ks y = ⟨6, y.kind, y.field, (⟨#[]⟩ : ByteArray), 0, ⟨(⟨#[]⟩ : ByteArray), (fieldAt ks y).bits, (fieldAt ks y).low⟩, zK⟩ := by unfold invV; rw [if_neg (show ¬ y.do_ = 0 by rw [hd]; decide), if_neg (show ¬ y.do_ = 2 by rw [hd]; decide), if_neg (show ¬ y.do_ = 3 by rw [hd]; decide), if_neg (show ¬ y.do_ = 5 by rw [hd]; decide), if_pos hd]
  have hB : invB ks y = (decide (y.new.low ≤ fv.low) && decide (hiF fv ≤ topF y.new.bits.toNat y.new.low)) := by unfold invB; rw [if_neg (by rw [hd]; decide), if_pos hd, hfv]
  have HVV := Lib.hid hV
  have HBB := Lib.hid hB
  have hb0 := ((Below.refl W.heap.size W).alloc (Nat.le_refl _) (.cells #[.int .i64 6, .string y.kind, .string y.field, .string y.name, .int .i64 y.value, .string y.new.name, .int .i64 y.new.bits, .int .i64 y.new.low, .string y.whole.name, .slice a y.whole.fields.length c] 45)).alloc (by simp) (.cells #[.int .i64 0, .string (⟨#[]⟩ : ByteArray), .string (⟨#[]⟩ : ByteArray), .string (⟨#[]⟩ : ByteArray), .int .i64 0, .string (⟨#[]⟩ : ByteArray), .int .i64 0, .int .i64 0, .string (⟨#[]⟩ : ByteArray), .slice none 0 0] 45)
  have hrow := heap_keep (heap_alloc_new W (.cells #[.int .i64 6, .string y.kind, .string y.field, .string y.name, .int .i64 y.value, .string y.new.name, .int .i64 y.new.bits, .int .i64 y.new.low, .string y.whole.name, .slice a y.whole.fields.length c] 45)) (.cells #[.int .i64 0, .string (⟨#[]⟩ : ByteArray), .string (⟨#[]⟩ : ByteArray), .string (⟨#[]⟩ : ByteArray), .int .i64 0, .string (⟨#[]⟩ : ByteArray), .int .i64 0, .int .i64 0, .string (⟨#[]⟩ : ByteArray), .slice none 0 0] 45)
  have hres := heap_alloc_new (W.alloc (.cells #[.int .i64 6, .string y.kind, .string y.field, .string y.name, .int .i64 y.value, .string y.new.name, .int .i64 y.new.bits, .int .i64 y.new.low, .string y.whole.name, .slice a y.whole.fields.length c] 45)) (.cells #[.int .i64 0, .string (⟨#[]⟩ : ByteArray), .string (⟨#[]⟩ : ByteArray), .string (⟨#[]⟩ : ByteArray), .int .i64 0, .string (⟨#[]⟩ : ByteArray), .int .i64 0, .int .i64 0, .string (⟨#[]⟩ : ByteArray), .slice none 0 0] 45)
  rw [World.size_alloc] at hres
  obtain ⟨w0, hw0⟩ : ∃ w, w = (W.alloc (.cells #[.int .i64 6, .string y.kind, .string y.field, .string y.name, .int .i64 y.value, .string y.new.name, .int .i64 y.new.bits, .int .i64 y.new.low, .string y.whole.name, .slice a y.whole.fields.length c] 45)).alloc (.cells #[.int .i64 0, .string (⟨#[]⟩ : ByteArray), .string (⟨#[]⟩ : ByteArray), .string (⟨#[]⟩ : ByteArray), .int .i64 0, .string (⟨#[]⟩ : ByteArray), .int .i64 0, .int .i64 0, .string (⟨#[]⟩ : ByteArray), .slice none 0 0] 45) := ⟨_, rfl⟩
  rw [← hw0] at hb0 hrow hres
  have cP := ref_where ks _ n kc hn h1 hv y w0 (hz.below KindAt.abides hb0)
  obtain ⟨I, hI⟩ : ∃ x, x = iK ks y := ⟨_, rfl⟩
  obtain ⟨J, hJ⟩ : ∃ x, x = jW ks y := ⟨_, rfl⟩
  rw [← hI, ← hJ] at cP
  obtain ⟨nk, hnk⟩ : ∃ x, x = y.kind := ⟨_, rfl⟩
  obtain ⟨nf, hnf⟩ : ∃ x, x = y.field := ⟨_, rfl⟩
  obtain ⟨nm, hnm⟩ : ∃ x, x = y.name := ⟨_, rfl⟩
  obtain ⟨vv, hvv⟩ : ∃ x, x = y.value := ⟨_, rfl⟩
  obtain ⟨fn, hfn⟩ : ∃ x, x = y.new.name := ⟨_, rfl⟩
  obtain ⟨fb, hfb⟩ : ∃ x, x = y.new.bits := ⟨_, rfl⟩
  obtain ⟨fo, hfo⟩ : ∃ x, x = y.new.low := ⟨_, rfl⟩
  obtain ⟨wn, hwn⟩ : ∃ x, x = y.whole.name := ⟨_, rfl⟩
  obtain ⟨wl, hwl⟩ : ∃ x, x = y.whole.fields.length := ⟨_, rfl⟩
  rw [← hnk, ← hnf, ← hnm, ← hvv, ← hfn, ← hfb, ← hfo, ← hwn, ← hwl] at hrow hw0 ⊢
  rw [← hnk, ← hnf] at cP
  rw [← hnk, ← hnf] at HVV
  rw [← hfv, ← hf2e, ← hf3e] at HVV
  rw [← hf3e, ← hfo, ← hfb, show hiF fv = topF f2.toNat f3 by unfold hiF; rw [hf2e, hf3e]] at HBB
  rw [← hfb, ← hfo] at OKG
  rw [hiq] at hI
  rw [hij] at hJ
  have HIJ := Lib.hid (And.intro hI hJ)
  obtain ⟨g, hg⟩ : ∃ g, g = W.heap.size := ⟨_, rfl⟩
  obtain ⟨g4, hg4⟩ : ∃ x, x = W.heap.size + 1 := ⟨_, rfl⟩
  rw [← hg] at hrow
  rw [← hg4] at hres
  have HB := Lib.hid hb0
  have HROW := Lib.hid hrow
  have HRES := Lib.hid hres
  have HW0 := Lib.hid hw0
  have HG := Lib.hid (And.intro hg hg4)
  have HN := Lib.hid hn
  have H1 := Lib.hid h1
  have HZ := Lib.hid hz
  have CP := Lib.hid cP
  have hmk := @run_makeMap Tryd.prog
  clear hV hB hp hb0 hrow hres hw0 hg hg4 hn h1 hv hz hd hk0 he hnk hnf hnm hvv hfn hfb hfo hwn hwl cP hI hJ hq hj hfv hf1e hf2e hf3e hqn hiq hij
  go_enter Tryd.func12, Tryd.ntmps12
  go_wp2_with fail
  rw [← HW0.out, ← HG.out.2, ← HG.out.1]
  refine CP.out.mono ?_
  rintro e w1 ⟨rfl, hb1⟩
  have hown0 : OwnI (w1.alloc (.map #[] 0)) w1.heap.size 0 (.map []) := World.ownsMap_made w1 Tryd.prog 3 _
  have hbm := (Below.refl w1.heap.size w1).alloc (Nat.le_refl _) (.map #[] 0)
  obtain ⟨w2, hw2⟩ : ∃ w, w = w1.alloc (.map #[] 0) := ⟨_, rfl⟩
  obtain ⟨M, hM⟩ : ∃ b, b = w1.heap.size := ⟨_, rfl⟩
  have HM := Lib.hid (And.intro hw2 hM)
  have HB1 := Lib.hid (bt HB.out hb1)
  have HROW1 := Lib.hid (heap_below HROW.out hb1)
  have HRES1 := Lib.hid (heap_below HRES.out hb1)
  rw [← hw2] at hbm
  have HROW2 := Lib.hid (heap_below HROW1.out hbm)
  have HRES2 := Lib.hid (heap_below HRES1.out hbm)
  have HB2 := Lib.hid (bt HB1.out hbm)
  have HGM := Lib.hid (show g < M ∧ g4 < M by rw [hM]; exact ⟨lt_of_heap HROW1.out, lt_of_heap HRES1.out⟩)
  have HMS := Lib.hid (show W.heap.size ≤ M by rw [hM]; exact HB1.out.size)
  have HOWN0 := Lib.hid hown0
  clear hb1 CP HW0 hw2 hM hown0 hbm HB HROW HRES HROW1 HRES1 HB1
  go_wp2_with (with_reducible show wpList _ _ _ (Oper.mk _ (Op.insert _ _ _ _) _ _ _ _ :: _) _ _; (refine wpList_insert_own _ rfl _ _ _ 77 rfl 3 3 keyI Tryd.underlying77 (plainElem (H := Unit) Tryd.prog 3) w1.heap.size 0 (DataW.map [] : DataW Unit) rfl HOWN0.out (by have : maxLen = 9223372036854775807 := rfl; omega) (.int .i64 0) (.int .i64 1) (.int .i64 0) rfl rfl (keyOfI (by kernel_rfl)) (.lit (.int .i64 1)) [] (plainElem_int Tryd.underlying3 (by kernel_rfl)) ?_))
  intro v1 hown1 hg1
  rw [← HM.out.1, ← HM.out.2] at hg1
  rw [← HM.out.2] at hown1 ⊢
  have HOWN1 := Lib.hid hown1
  have HG1 := Lib.hid hg1
  clear hown1 hg1 HOWN0
  go_wp2_with (with_reducible show wpList _ _ _ (Oper.mk _ (Op.insert _ _ _ _) _ _ _ _ :: _) _ _; (refine wpList_insert_own _ rfl _ _ _ 77 rfl 3 3 keyI Tryd.underlying77 (plainElem (H := Unit) Tryd.prog 3) M 1 ((DataW.map [] : DataW Unit).put (.int .i64 0) (.lit (.int .i64 1))) rfl HOWN1.out (by have : maxLen = 9223372036854775807 := rfl; omega) (.int .i64 2) (.int .i64 2) (.int .i64 2) rfl rfl (keyOfI (by kernel_rfl)) (.lit (.int .i64 2)) [] (plainElem_int Tryd.underlying3 (by kernel_rfl)) ?_))
  intro v2 hown2 hg2
  have HOWN2 := Lib.hid hown2
  have HG2 := Lib.hid hg2
  clear hown2 hg2 HOWN1
  go_wp2_with (with_reducible show wpList _ _ _ (Oper.mk _ (Op.insert _ _ _ _) _ _ _ _ :: _) _ _; (refine wpList_insert_own _ rfl _ _ _ 77 rfl 3 3 keyI Tryd.underlying77 (plainElem (H := Unit) Tryd.prog 3) M 2 (((DataW.map [] : DataW Unit).put (.int .i64 0) (.lit (.int .i64 1))).put (.int .i64 2) (.lit (.int .i64 2))) rfl HOWN2.out (by have : maxLen = 9223372036854775807 := rfl; omega) (.int .i64 3) (.int .i64 4) (.int .i64 3) rfl rfl (keyOfI (by kernel_rfl)) (.lit (.int .i64 4)) [] (plainElem_int Tryd.underlying3 (by kernel_rfl)) ?_))
  intro v3 hown3 hg3
  have HOWN3 := Lib.hid hown3
  have HG3 := Lib.hid hg3
  clear hown3 hg3 HOWN2
  go_wp2_with (with_reducible show wpList _ _ _ (Oper.mk _ (Op.insert _ _ _ _) _ _ _ _ :: _) _ _; (refine wpList_insert_own _ rfl _ _ _ 77 rfl 3 3 keyI Tryd.underlying77 (plainElem (H := Unit) Tryd.prog 3) M 3 ((((DataW.map [] : DataW Unit).put (.int .i64 0) (.lit (.int .i64 1))).put (.int .i64 2) (.lit (.int .i64 2))).put (.int .i64 3) (.lit (.int .i64 4))) rfl HOWN3.out (by have : maxLen = 9223372036854775807 := rfl; omega) (.int .i64 5) (.int .i64 5) (.int .i64 5) rfl rfl (keyOfI (by kernel_rfl)) (.lit (.int .i64 5)) [] (plainElem_int Tryd.underlying3 (by kernel_rfl)) ?_))
  intro v4 hown4 hg4
  have HOWN4 := Lib.hid hown4
  have HG4 := Lib.hid hg4
  clear hown4 hg4 HOWN3
  go_wp2_with (with_reducible show wpList _ _ _ (Oper.mk _ (Op.insert _ _ _ _) _ _ _ _ :: _) _ _; (refine wpList_insert_own _ rfl _ _ _ 77 rfl 3 3 keyI Tryd.underlying77 (plainElem (H := Unit) Tryd.prog 3) M 4 (((((DataW.map [] : DataW Unit).put (.int .i64 0) (.lit (.int .i64 1))).put (.int .i64 2) (.lit (.int .i64 2))).put (.int .i64 3) (.lit (.int .i64 4))).put (.int .i64 5) (.lit (.int .i64 5))) rfl HOWN4.out (by have : maxLen = 9223372036854775807 := rfl; omega) (.int .i64 6) (.int .i64 6) (.int .i64 6) rfl rfl (keyOfI (by kernel_rfl)) (.lit (.int .i64 6)) [] (plainElem_int Tryd.underlying3 (by kernel_rfl)) ?_))
  intro v5 hown5 hg5
  have HOWN5 := Lib.hid hown5
  have HG5 := Lib.hid hg5
  clear hown5 hg5 HOWN4
  clear hmk
  have hgb := ((((HG1.out.trans HG2.out).trans HG3.out).trans HG4.out).trans HG5.out)
  have HROW7 := Lib.hid (heap_gbM HROW2.out hgb (by have := HGM.out; omega))
  have HRES7 := Lib.hid (heap_gbM HRES2.out hgb (by have := HGM.out; omega))
  have HB7 := Lib.hid (HB2.out.trans (below_gbM hgb HMS.out HB2.out.size))
  have hown : OwnI v5 M 5 doD := HOWN5.out
  have r0 := cell_of_row _ _ 0 _ _ _ HROW7.out
  clear hgb HG1 HG2 HG3 HG4 HG5 HROW2 HRES2 HB2 HOWN5
  go_wp2_with (at_lookup; (refine wpList_lookup_own_int _ rfl _ _ 77 rfl 3 3 .i64 keyI Tryd.underlying77 Tryd.underlying3 (zeroI _) M 5 doD rfl hown (.int .i64 6) (.int .i64 6) rfl (keyOfI (by kernel_rfl)) ?_))
  intro cv hat hwc
  have hcv : cv = 6 := by have e := hat.symm.trans doD_6; injection e with e; injection e
  subst hcv
  clear hat hwc hown
  have h8 := heap_alloc_new v5 (.cells #[.int .i64 6, .string (⟨#[]⟩ : ByteArray), .string (⟨#[]⟩ : ByteArray), .string (⟨#[]⟩ : ByteArray), .int .i64 0, .string (⟨#[]⟩ : ByteArray), .int .i64 0, .int .i64 0, .string (⟨#[]⟩ : ByteArray), .slice none 0 0] 45)
  have hb8 := (Below.refl v5.heap.size v5).alloc (Nat.le_refl _) (.cells #[.int .i64 6, .string (⟨#[]⟩ : ByteArray), .string (⟨#[]⟩ : ByteArray), .string (⟨#[]⟩ : ByteArray), .int .i64 0, .string (⟨#[]⟩ : ByteArray), .int .i64 0, .int .i64 0, .string (⟨#[]⟩ : ByteArray), .slice none 0 0] 45)
  obtain ⟨w8, hw8⟩ : ∃ w, w = v5.alloc (.cells #[.int .i64 6, .string (⟨#[]⟩ : ByteArray), .string (⟨#[]⟩ : ByteArray), .string (⟨#[]⟩ : ByteArray), .int .i64 0, .string (⟨#[]⟩ : ByteArray), .int .i64 0, .int .i64 0, .string (⟨#[]⟩ : ByteArray), .slice none 0 0] 45) := ⟨_, rfl⟩
  obtain ⟨b8, hb8e⟩ : ∃ b, b = v5.heap.size := ⟨_, rfl⟩
  rw [← hw8] at h8 hb8
  rw [← hb8e] at h8
  have HGB := Lib.hid (show g < b8 ∧ g4 < b8 ∧ W.heap.size ≤ b8 by rw [hb8e]; exact ⟨lt_of_heap HROW7.out, lt_of_heap HRES7.out, HB7.out.size⟩)
  have HROW8 := Lib.hid (heap_below HROW7.out hb8)
  have HRES8 := Lib.hid (heap_below HRES7.out hb8)
  have HB8 := Lib.hid (bt HB7.out hb8)
  have HW8 := Lib.hid (And.intro hw8 hb8e)
  have H8 := Lib.hid h8
  have r0b := cell_of_row _ _ 0 _ _ _ HROW8.out
  rw [hw8] at r0b
  clear hw8 hb8e hb8 h8 HROW7 HRES7 HB7 r0
  go_upto_region 14 with fail
  rw [← HW8.out.1, ← HW8.out.2, HIJ.out.1, HIJ.out.2]
  clear r0b
  have HCK1 := Lib.hid (HCK.out.below HB8.out)
  have HCF1 := Lib.hid (HCF.out.below HB8.out)
  have q1 := HCK1.out 1 _ rfl
  have p0 := HCF1.out 0 _ rfl
  have p1 := HCF1.out 1 _ rfl
  have p2 := HCF1.out 2 _ rfl
  rw [Nat.add_zero] at p0
  have hqn2 := HQN.out
  have HROW9 := Lib.hid (heap_keep HROW8.out (.cells #[.string f1, .int .i64 f2, .int .i64 f3] 40))
  have r6 := cell_of_row _ _ 6 _ _ _ HROW9.out
  have r7 := cell_of_row _ _ 7 _ _ _ HROW9.out
  have h9 := heap_keep (heap_alloc_new w8 (.cells #[.string f1, .int .i64 f2, .int .i64 f3] 40)) (.cells #[.string f1, .int .i64 fb, .int .i64 fo] 40)
  have h10 := heap_alloc_new (w8.alloc (.cells #[.string f1, .int .i64 f2, .int .i64 f3] 40)) (.cells #[.string f1, .int .i64 fb, .int .i64 fo] 40)
  rw [World.size_alloc] at h10
  have hbC := ((Below.refl w8.heap.size w8).alloc (Nat.le_refl _) (.cells #[.string f1, .int .i64 f2, .int .i64 f3] 40)).alloc (by simp) (.cells #[.string f1, .int .i64 fb, .int .i64 fo] 40)
  obtain ⟨wC, hwC⟩ : ∃ w, w = (w8.alloc (.cells #[.string f1, .int .i64 f2, .int .i64 f3] 40)).alloc (.cells #[.string f1, .int .i64 fb, .int .i64 fo] 40) := ⟨_, rfl⟩
  rw [← hwC] at h9 h10 hbC
  obtain ⟨b9, hb9⟩ : ∃ b, b = w8.heap.size := ⟨_, rfl⟩
  obtain ⟨b10, hb10⟩ : ∃ b, b = w8.heap.size + 1 := ⟨_, rfl⟩
  rw [← hb9] at h9
  rw [← hb10] at h10
  have hg9 : b8 < b9 := by rw [hb9]; exact lt_of_heap H8.out
  have HG9 := Lib.hid (show b8 < b9 ∧ b10 = b9 + 1 from ⟨hg9, by omega⟩)
  have HROWC := Lib.hid (heap_below HROW8.out hbC)
  have HRESC := Lib.hid (heap_below HRES8.out hbC)
  have H8C := Lib.hid (heap_below H8.out hbC)
  have HBC := Lib.hid (bt HB8.out hbC)
  have H9C := Lib.hid h9
  have H10C := Lib.hid h10
  have HWC := Lib.hid hwC
  have HB9 := Lib.hid (And.intro hb9 hb10)
  clear h9 h10 hbC hwC hb9 hb10 hg9
  go_upto_region 16 with fail
  rw [← HWC.out, ← HB9.out.2, ← HB9.out.1]
  clear q1 p0 p1 p2 r6 r7
  have r1 := cell_of_row _ _ 1 _ _ _ HROWC.out
  have r2 := cell_of_row _ _ 2 _ _ _ HROWC.out
  have s1 := cell_of_row _ _ 1 _ _ _ H9C.out
  have s2 := cell_of_row _ _ 2 _ _ _ H9C.out
  have z1 := cell_of_row _ _ 1 _ _ _ H8C.out
  have z2 := cell_of_row _ _ 2 _ _ _ H8C.out
  have z5 := cell_of_row _ _ 5 _ _ _ H8C.out
  have z6 := cell_of_row _ _ 6 _ _ _ H8C.out
  have z7 := cell_of_row _ _ 7 _ _ _ H8C.out
  have k1 := Mem.frozen_of_row H8C.out 1
  have k2 := Mem.frozen_of_row H8C.out 2
  have k5 := Mem.frozen_of_row H8C.out 5
  have k6 := Mem.frozen_of_row H8C.out 6
  have k7 := Mem.frozen_of_row H8C.out 7
  have hne : g ≠ b8 := by have := HGB.out; omega
  have hne9 : b9 ≠ b8 := by have := HG9.out; omega
  have hne4 : g4 ≠ b8 := by have := HGB.out; omega
  have hne10 : b10 ≠ b8 := by have := HG9.out; omega
  obtain ⟨wD, hwD⟩ : ∃ w, w = (((((wC.setCell ⟨b8, 1, none⟩ (.string nk)).setCell ⟨b8, 2, none⟩ (.string nf)).setCell ⟨b8, 5, none⟩ (.string (⟨#[]⟩ : ByteArray))).setCell ⟨b8, 6, none⟩ (.int .i64 f2)).setCell ⟨b8, 7, none⟩ (.int .i64 f3)).drew := ⟨_, rfl⟩
  have R8 := Lib.hid (show wD.heap[b8]? = some (.cells #[.int .i64 6, .string nk, .string nf, .string (⟨#[]⟩ : ByteArray), .int .i64 0, .string (⟨#[]⟩ : ByteArray), .int .i64 f2, .int .i64 f3, .string (⟨#[]⟩ : ByteArray), .slice none 0 0] 45 (0, 0)) by rw [hwD]; exact heap_set (heap_set (heap_set (heap_set (heap_set H8C.out 1 (.string nk)) 2 (.string nf)) 5 (.string (⟨#[]⟩ : ByteArray))) 6 (.int .i64 f2)) 7 (.int .i64 f3))
  have R9 := Lib.hid (show wD.heap[b9]? = some (.cells #[.string f1, .int .i64 f2, .int .i64 f3] 40 (0, 0)) by rw [hwD]; exact Mem.heap_far (Mem.heap_far (Mem.heap_far (Mem.heap_far (Mem.heap_far H9C.out hne9 _) hne9 _) hne9 _) hne9 _) hne9 _)
  have R10 := Lib.hid (show wD.heap[b10]? = some (.cells #[.string f1, .int .i64 fb, .int .i64 fo] 40 (0, 0)) by rw [hwD]; exact Mem.heap_far (Mem.heap_far (Mem.heap_far (Mem.heap_far (Mem.heap_far H10C.out hne10 _) hne10 _) hne10 _) hne10 _) hne10 _)
  have HRESD := Lib.hid (show wD.heap[g4]? = some (.cells #[.int .i64 0, .string (⟨#[]⟩ : ByteArray), .string (⟨#[]⟩ : ByteArray), .string (⟨#[]⟩ : ByteArray), .int .i64 0, .string (⟨#[]⟩ : ByteArray), .int .i64 0, .int .i64 0, .string (⟨#[]⟩ : ByteArray), .slice none 0 0] 45 (0, 0)) by rw [hwD]; exact Mem.heap_far (Mem.heap_far (Mem.heap_far (Mem.heap_far (Mem.heap_far HRESC.out hne4 _) hne4 _) hne4 _) hne4 _) hne4 _)
  have HBD := Lib.hid (show Below W.heap.size W wD by rw [hwD]; exact (((((HBC.out.setCell (show W.heap.size ≤ b8 from HGB.out.2.2) _).setCell (show W.heap.size ≤ b8 from HGB.out.2.2) _).setCell (show W.heap.size ≤ b8 from HGB.out.2.2) _).setCell (show W.heap.size ≤ b8 from HGB.out.2.2) _).setCell (show W.heap.size ≤ b8 from HGB.out.2.2) _).drew)
  have HWD := Lib.hid hwD
  have R92 := Lib.hid (cell_of_row _ _ 2 _ _ _ R9.out)
  have HN8 := Lib.hid (show (some b8 : Option Nat) ≠ some g4 by intro e; injection e with e; exact hne4 e.symm)
  have HN9 := Lib.hid (show (some b9 : Option Nat) ≠ some g4 by intro e; injection e with e; have := HG9.out; have := HGB.out; omega)
  have HN10 := Lib.hid (show (some b10 : Option Nat) ≠ some g4 by intro e; injection e with e; have := HG9.out; have := HGB.out; omega)
  clear hwD hne4 hne10
  go_region
  obtain ⟨nb, hnb⟩ : ∃ m : Nat, f2 = (m : Int) := ⟨f2.toNat, by have := OKF.out; omega⟩
  obtain ⟨ng, hng⟩ : ∃ m : Nat, fb = (m : Int) := ⟨fb.toNat, by have := OKG.out; omega⟩
  obtain ⟨hf, hhf⟩ : ∃ x, x = topF nb f3 := ⟨_, rfl⟩
  obtain ⟨n1, hn1⟩ : ∃ x, x = nearF ng fo f3 := ⟨_, rfl⟩
  obtain ⟨n2, hn2⟩ : ∃ x, x = nearF ng fo hf := ⟨_, rfl⟩
  have CT := Lib.hid (fun w' => (ref_Top f1 nb f3 (by have := OKF.out; omega) (by have := OKF.out; omega) (by have := OKF.out; omega) w').mono (fun e w2 h => (show e = .returned (.int .i64 (topF nb f3)) ∧ Below w'.heap.size w' w2 from ⟨h.1, by rw [← h.2]; exact (Below.refl _ _).alloc (Nat.le_refl _) _⟩)))
  have CN := Lib.hid (fun v w' => Nearest_ok f1 ng fo v HFN.out (by have := OKG.out.1; rw [hng] at this; exact this) (by have := OKG.out; omega) (by have := OKG.out; omega) (by have := OKG.out; omega) (by have := OKG.out; omega) w')
  rw [← hhf, ← hnb] at CT
  rw [← hng] at CN
  have CN1 := Lib.hid (fun w' => CN.out f3 w')
  have CN2 := Lib.hid (fun w' => CN.out hf w')
  rw [← hn1] at CN1
  rw [← hn2] at CN2
  obtain ⟨HH, hHH⟩ : ∃ b, b = decide (n2 = hf) := ⟨_, rfl⟩
  have HHH := Lib.hid hHH.symm
  have HB6 := Lib.hid (show invB ks y = (decide (n1 = f3) && HH) by
    have e1 := inv_same (nf := nb) (ng := ng) (lf := f3) (lg := fo) (by have := OKF.out; omega) (by have := OKG.out; omega)
    rw [HBB.out, hHH, hn1, hn2, hhf, hng, hnb, Int.toNat_natCast, Int.toNat_natCast, ← e1]; rfl)
  clear hnb hng hhf hn1 hn2 hHH HBB CN
  go_upto_region 17 with fail
  rw [← HWD.out]
  clear r1 r2 s1 s2 z1 z2 z5 z6 z7 k1 k2 k5 k6 k7
  by_cases hle : n1 = f3
  · have HBR := Lib.hid (show invB ks y = HH by rw [HB6.out, decide_eq_true hle]; rfl)
    refine wp_region_facts_r rfl 18 (by kernel_rfl) (fun a b => World.grownBy a b (some g4)) (gb_drew _ _) (fun _ _ _ h h2 => h.trans h2) (RG 17 (some g4)) RG.sub (F_undt g g4 b8 b9 b10 nk nf f1 f2 f3 fb fo n1 n2 hf HH) (F_undt_mono g g4 b8 b9 b10 nk nf f1 f2 f3 fb fo n1 n2 hf HH) 17 (fun w => Below wD.heap.size wD w) ((Below.refl wD.heap.size wD).drew) (fun i a b hi h ho => ho.trans ((h.1 hi).mono ho.size)) ?_ ?_
    · refine ⟨?_, ?_, ?_, ?_, ?_, ?_, ?_, ?_, ?_, ?_, ?_, ?_, ?_, ?_, ?_, ?_, ?_, ?_, trivial⟩
      · intro vs w' F hb hd hF hl hT hq
        have e := ((hF 8).trans (look_out _ 8 _ _ (by kernel_rfl)))
        exact rg_load 45 _ rfl rfl (b8) (0) [.int .i64 6, .string nk, .string nf, .string (⟨#[]⟩ : ByteArray), .int .i64 0, .string (⟨#[]⟩ : ByteArray), .int .i64 f2, .int .i64 f3, .string (⟨#[]⟩ : ByteArray), .slice none 0 0] e ((cellsK_gb (CellsK.row R8.out) hb HN8.out)) _ Tryd.underlying45 rfl (by kernel_rfl) ⟨_, rfl, RG.same _ _ _ _, rfl⟩
      · intro vs w' F hb hd hF hl hT hq
        have e := (hF 10).trans (look_out _ 10 _ _ (by kernel_rfl))
        exact rg_load 40 _ rfl rfl (b10) (0) [.string f1, .int .i64 fb, .int .i64 fo] e ((cellsK_gb (CellsK.row R10.out) hb HN10.out)) _ Tryd.underlying40 rfl (by kernel_rfl) ⟨_, rfl, RG.same _ _ _ _, rfl⟩
      · intro vs w' F hb hd hF hl hT hq
        have e := (hF 9).trans (look_out _ 9 _ _ (by kernel_rfl))
        exact one_field _ _ _ rfl rfl _ _ e (2) (fun w => by kernel_rfl) ⟨_, rfl, RG.same _ _ _ _, rfl⟩
      · intro vs w' F hb hd hF hl hT hq
        have e := ((hF 96).trans (look_at _ 96 2 _ _ (by kernel_rfl) (by kernel_rfl) hl)).trans (dep_of (Fact := F_undt g g4 b8 b9 b10 nk nf f1 f2 f3 fb fo n1 n2 hf HH) hd 2 (by kernel_rfl))
        exact one_load _ _ rfl rfl _ _ e (World.grownBy.cell hb R92.out HN9.out) (by kernel_rfl) ⟨_, rfl, RG.same _ _ _ _, rfl⟩
      · intro vs w' F hb hd hF hl hT hq
        have ea0 := ((hF 95).trans (look_at _ 95 1 _ _ (by kernel_rfl) (by kernel_rfl) hl)).trans (dep_of (Fact := F_undt g g4 b8 b9 b10 nk nf f1 f2 f3 fb fo n1 n2 hf HH) hd 1 (by kernel_rfl))
        have ea1 := ((hF 97).trans (look_at _ 97 3 _ _ (by kernel_rfl) (by kernel_rfl) hl)).trans (dep_of (Fact := F_undt g g4 b8 b9 b10 nk nf f1 f2 f3 fb fo n1 n2 hf HH) hd 3 (by kernel_rfl))
        refine one_call _ _ rfl rfl (enters_of Tryd.func35 (by kernel_rfl) rfl) #[.agg #[.string f1, .int .i64 fb, .int .i64 fo], .int .i64 f3] (eval2 ea0 ea1) ?_
        refine (CN1.out w').mono ?_
        rintro e2 w2 ⟨rfl, hb2⟩
        exact ⟨_, rfl, _, rfl, RG.below (by decide) hb2, rfl⟩
      · intro vs w' F hb hd hF hl hT hq
        have e := (hF 9).trans (look_out _ 9 _ _ (by kernel_rfl))
        exact one_field _ _ _ rfl rfl _ _ e (2) (fun w => by kernel_rfl) ⟨_, rfl, RG.same _ _ _ _, rfl⟩
      · intro vs w' F hb hd hF hl hT hq
        have e := ((hF 99).trans (look_at _ 99 5 _ _ (by kernel_rfl) (by kernel_rfl) hl)).trans (dep_of (Fact := F_undt g g4 b8 b9 b10 nk nf f1 f2 f3 fb fo n1 n2 hf HH) hd 5 (by kernel_rfl))
        exact one_load _ _ rfl rfl _ _ e (World.grownBy.cell hb R92.out HN9.out) (by kernel_rfl) ⟨_, rfl, RG.same _ _ _ _, rfl⟩
      · intro vs w' F hb hd hF hl hT hq
        have e1 := ((hF 98).trans (look_at _ 98 4 _ _ (by kernel_rfl) (by kernel_rfl) hl)).trans (dep_of (Fact := F_undt g g4 b8 b9 b10 nk nf f1 f2 f3 fb fo n1 n2 hf HH) hd 4 (by kernel_rfl))
        have e2 := ((hF 100).trans (look_at _ 100 6 _ _ (by kernel_rfl) (by kernel_rfl) hl)).trans (dep_of (Fact := F_undt g g4 b8 b9 b10 nk nf f1 f2 f3 fb fo n1 n2 hf HH) hd 6 (by kernel_rfl))
        exact rg_eql _ _ _ _ rfl rfl .i64 (n1) (f3) true e1 e2 (decide_eq_true (hle)) ⟨_, rfl, RG.same _ _ _ _, rfl⟩
      · intro vs w' F hb hd hF hl hT hq
        have e := ((hF 101).trans (look_at _ 101 7 _ _ (by kernel_rfl) (by kernel_rfl) hl)).trans (dep_of (Fact := F_undt g g4 b8 b9 b10 nk nf f1 f2 f3 fb fo n1 n2 hf HH) hd 7 (by kernel_rfl))
        exact one_move _ rfl (by first | exact Or.inl rfl | exact Or.inr rfl) ⟨_, rfl, RG.same _ _ _ _, e⟩
      · intro vs w' F hb hd hF hl hT hq
        have eg := ((hF 102).trans (look_at _ 102 8 _ _ (by kernel_rfl) (by kernel_rfl) hl)).trans (dep_of (Fact := F_undt g g4 b8 b9 b10 nk nf f1 f2 f3 fb fo n1 n2 hf HH) hd 8 (by kernel_rfl))
        refine wpList_on rfl (t := 102) (by kernel_rfl) eg ?_
        have e := (hF 10).trans (look_out _ 10 _ _ (by kernel_rfl))
        exact rg_load 40 _ rfl rfl (b10) (0) [.string f1, .int .i64 fb, .int .i64 fo] e ((cellsK_gb (CellsK.row R10.out) hb HN10.out)) _ Tryd.underlying40 rfl (by kernel_rfl) ⟨_, rfl, RG.same _ _ _ _, rfl⟩
      · intro vs w' F hb hd hF hl hT hq
        have eg := ((hF 102).trans (look_at _ 102 8 _ _ (by kernel_rfl) (by kernel_rfl) hl)).trans (dep_of (Fact := F_undt g g4 b8 b9 b10 nk nf f1 f2 f3 fb fo n1 n2 hf HH) hd 8 (by kernel_rfl))
        refine wpList_on rfl (t := 102) (by kernel_rfl) eg ?_
        have e := (hF 9).trans (look_out _ 9 _ _ (by kernel_rfl))
        exact rg_load 40 _ rfl rfl (b9) (0) [.string f1, .int .i64 f2, .int .i64 f3] e ((cellsK_gb (CellsK.row R9.out) hb HN9.out)) _ Tryd.underlying40 rfl (by kernel_rfl) ⟨_, rfl, RG.same _ _ _ _, rfl⟩
      · intro vs w' F hb hd hF hl hT hq
        have eg := ((hF 102).trans (look_at _ 102 8 _ _ (by kernel_rfl) (by kernel_rfl) hl)).trans (dep_of (Fact := F_undt g g4 b8 b9 b10 nk nf f1 f2 f3 fb fo n1 n2 hf HH) hd 8 (by kernel_rfl))
        refine wpList_on rfl (t := 102) (by kernel_rfl) eg ?_
        have ea0 := ((hF 104).trans (look_at _ 104 10 _ _ (by kernel_rfl) (by kernel_rfl) hl)).trans (dep_of (Fact := F_undt g g4 b8 b9 b10 nk nf f1 f2 f3 fb fo n1 n2 hf HH) hd 10 (by kernel_rfl))
        refine one_call _ _ rfl rfl (enters_of Tryd.func36 (by kernel_rfl) rfl) #[.agg #[.string f1, .int .i64 f2, .int .i64 f3]] (eval1 ea0) ?_
        refine (CT.out w').mono ?_
        rintro e2 w2 ⟨rfl, hb2⟩
        exact ⟨_, rfl, _, rfl, RG.below (by decide) hb2, rfl⟩
      · intro vs w' F hb hd hF hl hT hq
        have eg := ((hF 102).trans (look_at _ 102 8 _ _ (by kernel_rfl) (by kernel_rfl) hl)).trans (dep_of (Fact := F_undt g g4 b8 b9 b10 nk nf f1 f2 f3 fb fo n1 n2 hf HH) hd 8 (by kernel_rfl))
        refine wpList_on rfl (t := 102) (by kernel_rfl) eg ?_
        have ea0 := ((hF 103).trans (look_at _ 103 9 _ _ (by kernel_rfl) (by kernel_rfl) hl)).trans (dep_of (Fact := F_undt g g4 b8 b9 b10 nk nf f1 f2 f3 fb fo n1 n2 hf HH) hd 9 (by kernel_rfl))
        have ea1 := ((hF 105).trans (look_at _ 105 11 _ _ (by kernel_rfl) (by kernel_rfl) hl)).trans (dep_of (Fact := F_undt g g4 b8 b9 b10 nk nf f1 f2 f3 fb fo n1 n2 hf HH) hd 11 (by kernel_rfl))
        refine one_call _ _ rfl rfl (enters_of Tryd.func35 (by kernel_rfl) rfl) #[.agg #[.string f1, .int .i64 fb, .int .i64 fo], .int .i64 hf] (eval2 ea0 ea1) ?_
        refine (CN2.out w').mono ?_
        rintro e2 w2 ⟨rfl, hb2⟩
        exact ⟨_, rfl, _, rfl, RG.below (by decide) hb2, rfl⟩
      · intro vs w' F hb hd hF hl hT hq
        have eg := ((hF 102).trans (look_at _ 102 8 _ _ (by kernel_rfl) (by kernel_rfl) hl)).trans (dep_of (Fact := F_undt g g4 b8 b9 b10 nk nf f1 f2 f3 fb fo n1 n2 hf HH) hd 8 (by kernel_rfl))
        refine wpList_on rfl (t := 102) (by kernel_rfl) eg ?_
        have e := (hF 9).trans (look_out _ 9 _ _ (by kernel_rfl))
        exact rg_load 40 _ rfl rfl (b9) (0) [.string f1, .int .i64 f2, .int .i64 f3] e ((cellsK_gb (CellsK.row R9.out) hb HN9.out)) _ Tryd.underlying40 rfl (by kernel_rfl) ⟨_, rfl, RG.same _ _ _ _, rfl⟩
      · intro vs w' F hb hd hF hl hT hq
        have eg := ((hF 102).trans (look_at _ 102 8 _ _ (by kernel_rfl) (by kernel_rfl) hl)).trans (dep_of (Fact := F_undt g g4 b8 b9 b10 nk nf f1 f2 f3 fb fo n1 n2 hf HH) hd 8 (by kernel_rfl))
        refine wpList_on rfl (t := 102) (by kernel_rfl) eg ?_
        have ea0 := ((hF 107).trans (look_at _ 107 13 _ _ (by kernel_rfl) (by kernel_rfl) hl)).trans (dep_of (Fact := F_undt g g4 b8 b9 b10 nk nf f1 f2 f3 fb fo n1 n2 hf HH) hd 13 (by kernel_rfl))
        refine one_call _ _ rfl rfl (enters_of Tryd.func36 (by kernel_rfl) rfl) #[.agg #[.string f1, .int .i64 f2, .int .i64 f3]] (eval1 ea0) ?_
        refine (CT.out w').mono ?_
        rintro e2 w2 ⟨rfl, hb2⟩
        exact ⟨_, rfl, _, rfl, RG.below (by decide) hb2, rfl⟩
      · intro vs w' F hb hd hF hl hT hq
        have eg := ((hF 102).trans (look_at _ 102 8 _ _ (by kernel_rfl) (by kernel_rfl) hl)).trans (dep_of (Fact := F_undt g g4 b8 b9 b10 nk nf f1 f2 f3 fb fo n1 n2 hf HH) hd 8 (by kernel_rfl))
        refine wpList_on rfl (t := 102) (by kernel_rfl) eg ?_
        have e1 := ((hF 106).trans (look_at _ 106 12 _ _ (by kernel_rfl) (by kernel_rfl) hl)).trans (dep_of (Fact := F_undt g g4 b8 b9 b10 nk nf f1 f2 f3 fb fo n1 n2 hf HH) hd 12 (by kernel_rfl))
        have e2 := ((hF 108).trans (look_at _ 108 14 _ _ (by kernel_rfl) (by kernel_rfl) hl)).trans (dep_of (Fact := F_undt g g4 b8 b9 b10 nk nf f1 f2 f3 fb fo n1 n2 hf HH) hd 14 (by kernel_rfl))
        exact rg_eql _ _ _ _ rfl rfl .i64 (n2) (hf) HH e1 e2 (HHH.out) ⟨_, rfl, RG.same _ _ _ _, rfl⟩
      · intro vs w' F hb hd hF hl hT hq
        have ec := ((hF 102).trans (look_at _ 102 8 _ _ (by kernel_rfl) (by kernel_rfl) hl)).trans (dep_of (Fact := F_undt g g4 b8 b9 b10 nk nf f1 f2 f3 fb fo n1 n2 hf HH) hd 8 (by kernel_rfl))
        have e := ((hF 109).trans (look_at _ 109 15 _ _ (by kernel_rfl) (by kernel_rfl) hl)).trans (dep_of (Fact := F_undt g g4 b8 b9 b10 nk nf f1 f2 f3 fb fo n1 n2 hf HH) hd 15 (by kernel_rfl))
        exact one_pick_t _ _ _ rfl rfl _ ec e ⟨_, rfl, RG.same _ _ _ _, rfl⟩
      · intro vs w' F hb hd hF hl hT hq
        have e := (((hF 94).trans (look_at _ 94 0 _ _ (by kernel_rfl) (by kernel_rfl) hl)).trans (dep_of (Fact := F_undt g g4 b8 b9 b10 nk nf f1 f2 f3 fb fo n1 n2 hf HH) hd 0 (by kernel_rfl)))
        have e4 := (hF 4).trans (look_out _ 4 _ _ (by kernel_rfl))
        have hbw := hq rfl
        refine wpList_store_rowP rfl 45 (.tmp 4) (.tmp 94) rfl g4 #[.int .i64 6, .string nk, .string nf, .string (⟨#[]⟩ : ByteArray), .int .i64 0, .string (⟨#[]⟩ : ByteArray), .int .i64 f2, .int .i64 f3, .string (⟨#[]⟩ : ByteArray), .slice none 0 0] e4 e _ _ (heap_below HRESD.out hbw) (by kernel_rfl) rfl (by simp [Value.oneCell']) ?_
        intro w9 hput
        exact ⟨_, rfl, RG.at_ rfl (gb_put hput), hput.here⟩
    · intro vs8 W8 hl hb hI
      have i0 : vs8.getD 0 undef = .agg #[.int .i64 6, .string nk, .string nf, .string (⟨#[]⟩ : ByteArray), .int .i64 0, .string (⟨#[]⟩ : ByteArray), .int .i64 f2, .int .i64 f3, .string (⟨#[]⟩ : ByteArray), .slice none 0 0] := hI 0 (by omega)
      have i16 : vs8.getD 16 undef = .bool HH := hI 16 (by omega)
      obtain ⟨x0, x1, x2, x3, x4, x5, x6, x7, x8, x9, x10, x11, x12, x13, x14, x15, x16, x17, x18, hvs⟩ := list19 hl
      subst hvs
      replace i0 : x0 = .agg #[.int .i64 6, .string nk, .string nf, .string (⟨#[]⟩ : ByteArray), .int .i64 0, .string (⟨#[]⟩ : ByteArray), .int .i64 f2, .int .i64 f3, .string (⟨#[]⟩ : ByteArray), .slice none 0 0] := i0
      replace i16 : x16 = .bool HH := i16
      subst i0 i16
      have hh := hI 17 (by omega)
      have HH8 := Lib.hid (show W8.heap[g4]? = some (.cells #[.int .i64 6, .string nk, .string nf, .string (⟨#[]⟩ : ByteArray), .int .i64 0, .string (⟨#[]⟩ : ByteArray), .int .i64 f2, .int .i64 f3, .string (⟨#[]⟩ : ByteArray), .slice none 0 0] 45 (0, 0)) from hh)
      have HBW := Lib.hid (show Below W.heap.size W W8 from HBD.out.trans ⟨hb.os, hb.tape, hb.output, hb.size, fun k hk => hb.block k (by have := HBD.out.size; omega) (fun e => by have := HG.out; injection e; omega)⟩)
      clear hI hl hb hh
      simp only [fillAll, Act.put, List.setIfInBounds_toArray, List.set_cons_succ, List.set_cons_zero, List.drop_succ_cons, List.drop_zero]
      go_wp2_with fail
      have hh := HH8.out
      refine bodyPost_ret (results_ct Tryd.results12 _ _ g4 45 #[.int .i64 6, .string nk, .string nf, .string (⟨#[]⟩ : ByteArray), .int .i64 0, .string (⟨#[]⟩ : ByteArray), .int .i64 f2, .int .i64 f3, .string (⟨#[]⟩ : ByteArray), .slice none 0 0] (0, 0) _ rfl hh Tryd.underlying45 rfl (by kernel_rfl)) rfl ?_
      exact InvPost.mk HVV.out HBR.out HBW.out
  · have HBR := Lib.hid (show invB ks y = false by rw [HB6.out, decide_eq_false hle]; rfl)
    refine wp_region_facts_r rfl 18 (by kernel_rfl) (fun a b => World.grownBy a b (some g4)) (gb_drew _ _) (fun _ _ _ h h2 => h.trans h2) (RG 17 (some g4)) RG.sub (F_undf g g4 b8 b9 b10 nk nf f1 f2 f3 fb fo n1 n2 hf) (F_undf_mono g g4 b8 b9 b10 nk nf f1 f2 f3 fb fo n1 n2 hf) 17 (fun w => Below wD.heap.size wD w) ((Below.refl wD.heap.size wD).drew) (fun i a b hi h ho => ho.trans ((h.1 hi).mono ho.size)) ?_ ?_
    · refine ⟨?_, ?_, ?_, ?_, ?_, ?_, ?_, ?_, ?_, ?_, ?_, ?_, ?_, ?_, ?_, ?_, ?_, ?_, trivial⟩
      · intro vs w' F hb hd hF hl hT hq
        have e := ((hF 8).trans (look_out _ 8 _ _ (by kernel_rfl)))
        exact rg_load 45 _ rfl rfl (b8) (0) [.int .i64 6, .string nk, .string nf, .string (⟨#[]⟩ : ByteArray), .int .i64 0, .string (⟨#[]⟩ : ByteArray), .int .i64 f2, .int .i64 f3, .string (⟨#[]⟩ : ByteArray), .slice none 0 0] e ((cellsK_gb (CellsK.row R8.out) hb HN8.out)) _ Tryd.underlying45 rfl (by kernel_rfl) ⟨_, rfl, RG.same _ _ _ _, rfl⟩
      · intro vs w' F hb hd hF hl hT hq
        have e := (hF 10).trans (look_out _ 10 _ _ (by kernel_rfl))
        exact rg_load 40 _ rfl rfl (b10) (0) [.string f1, .int .i64 fb, .int .i64 fo] e ((cellsK_gb (CellsK.row R10.out) hb HN10.out)) _ Tryd.underlying40 rfl (by kernel_rfl) ⟨_, rfl, RG.same _ _ _ _, rfl⟩
      · intro vs w' F hb hd hF hl hT hq
        have e := (hF 9).trans (look_out _ 9 _ _ (by kernel_rfl))
        exact one_field _ _ _ rfl rfl _ _ e (2) (fun w => by kernel_rfl) ⟨_, rfl, RG.same _ _ _ _, rfl⟩
      · intro vs w' F hb hd hF hl hT hq
        have e := ((hF 96).trans (look_at _ 96 2 _ _ (by kernel_rfl) (by kernel_rfl) hl)).trans (dep_of (Fact := F_undf g g4 b8 b9 b10 nk nf f1 f2 f3 fb fo n1 n2 hf) hd 2 (by kernel_rfl))
        exact one_load _ _ rfl rfl _ _ e (World.grownBy.cell hb R92.out HN9.out) (by kernel_rfl) ⟨_, rfl, RG.same _ _ _ _, rfl⟩
      · intro vs w' F hb hd hF hl hT hq
        have ea0 := ((hF 95).trans (look_at _ 95 1 _ _ (by kernel_rfl) (by kernel_rfl) hl)).trans (dep_of (Fact := F_undf g g4 b8 b9 b10 nk nf f1 f2 f3 fb fo n1 n2 hf) hd 1 (by kernel_rfl))
        have ea1 := ((hF 97).trans (look_at _ 97 3 _ _ (by kernel_rfl) (by kernel_rfl) hl)).trans (dep_of (Fact := F_undf g g4 b8 b9 b10 nk nf f1 f2 f3 fb fo n1 n2 hf) hd 3 (by kernel_rfl))
        refine one_call _ _ rfl rfl (enters_of Tryd.func35 (by kernel_rfl) rfl) #[.agg #[.string f1, .int .i64 fb, .int .i64 fo], .int .i64 f3] (eval2 ea0 ea1) ?_
        refine (CN1.out w').mono ?_
        rintro e2 w2 ⟨rfl, hb2⟩
        exact ⟨_, rfl, _, rfl, RG.below (by decide) hb2, rfl⟩
      · intro vs w' F hb hd hF hl hT hq
        have e := (hF 9).trans (look_out _ 9 _ _ (by kernel_rfl))
        exact one_field _ _ _ rfl rfl _ _ e (2) (fun w => by kernel_rfl) ⟨_, rfl, RG.same _ _ _ _, rfl⟩
      · intro vs w' F hb hd hF hl hT hq
        have e := ((hF 99).trans (look_at _ 99 5 _ _ (by kernel_rfl) (by kernel_rfl) hl)).trans (dep_of (Fact := F_undf g g4 b8 b9 b10 nk nf f1 f2 f3 fb fo n1 n2 hf) hd 5 (by kernel_rfl))
        exact one_load _ _ rfl rfl _ _ e (World.grownBy.cell hb R92.out HN9.out) (by kernel_rfl) ⟨_, rfl, RG.same _ _ _ _, rfl⟩
      · intro vs w' F hb hd hF hl hT hq
        have e1 := ((hF 98).trans (look_at _ 98 4 _ _ (by kernel_rfl) (by kernel_rfl) hl)).trans (dep_of (Fact := F_undf g g4 b8 b9 b10 nk nf f1 f2 f3 fb fo n1 n2 hf) hd 4 (by kernel_rfl))
        have e2 := ((hF 100).trans (look_at _ 100 6 _ _ (by kernel_rfl) (by kernel_rfl) hl)).trans (dep_of (Fact := F_undf g g4 b8 b9 b10 nk nf f1 f2 f3 fb fo n1 n2 hf) hd 6 (by kernel_rfl))
        exact rg_eql _ _ _ _ rfl rfl .i64 (n1) (f3) false e1 e2 (decide_eq_false (hle)) ⟨_, rfl, RG.same _ _ _ _, rfl⟩
      · intro vs w' F hb hd hF hl hT hq
        have e := ((hF 101).trans (look_at _ 101 7 _ _ (by kernel_rfl) (by kernel_rfl) hl)).trans (dep_of (Fact := F_undf g g4 b8 b9 b10 nk nf f1 f2 f3 fb fo n1 n2 hf) hd 7 (by kernel_rfl))
        exact one_move _ rfl (by first | exact Or.inl rfl | exact Or.inr rfl) ⟨_, rfl, RG.same _ _ _ _, e⟩
      · intro vs w' F hb hd hF hl hT hq
        have eg := ((hF 102).trans (look_at _ 102 8 _ _ (by kernel_rfl) (by kernel_rfl) hl)).trans (dep_of (Fact := F_undf g g4 b8 b9 b10 nk nf f1 f2 f3 fb fo n1 n2 hf) hd 8 (by kernel_rfl))
        exact wpList_off rfl (t := 102) (d := false) (by kernel_rfl) eg (by decide) ⟨_, rfl, RG.same _ _ _ _, rfl⟩
      · intro vs w' F hb hd hF hl hT hq
        have eg := ((hF 102).trans (look_at _ 102 8 _ _ (by kernel_rfl) (by kernel_rfl) hl)).trans (dep_of (Fact := F_undf g g4 b8 b9 b10 nk nf f1 f2 f3 fb fo n1 n2 hf) hd 8 (by kernel_rfl))
        exact wpList_off rfl (t := 102) (d := false) (by kernel_rfl) eg (by decide) ⟨_, rfl, RG.same _ _ _ _, rfl⟩
      · intro vs w' F hb hd hF hl hT hq
        have eg := ((hF 102).trans (look_at _ 102 8 _ _ (by kernel_rfl) (by kernel_rfl) hl)).trans (dep_of (Fact := F_undf g g4 b8 b9 b10 nk nf f1 f2 f3 fb fo n1 n2 hf) hd 8 (by kernel_rfl))
        exact wpList_off rfl (t := 102) (d := false) (by kernel_rfl) eg (by decide) ⟨_, rfl, RG.same _ _ _ _, rfl⟩
      · intro vs w' F hb hd hF hl hT hq
        have eg := ((hF 102).trans (look_at _ 102 8 _ _ (by kernel_rfl) (by kernel_rfl) hl)).trans (dep_of (Fact := F_undf g g4 b8 b9 b10 nk nf f1 f2 f3 fb fo n1 n2 hf) hd 8 (by kernel_rfl))
        exact wpList_off rfl (t := 102) (d := false) (by kernel_rfl) eg (by decide) ⟨_, rfl, RG.same _ _ _ _, rfl⟩
      · intro vs w' F hb hd hF hl hT hq
        have eg := ((hF 102).trans (look_at _ 102 8 _ _ (by kernel_rfl) (by kernel_rfl) hl)).trans (dep_of (Fact := F_undf g g4 b8 b9 b10 nk nf f1 f2 f3 fb fo n1 n2 hf) hd 8 (by kernel_rfl))
        exact wpList_off rfl (t := 102) (d := false) (by kernel_rfl) eg (by decide) ⟨_, rfl, RG.same _ _ _ _, rfl⟩
      · intro vs w' F hb hd hF hl hT hq
        have eg := ((hF 102).trans (look_at _ 102 8 _ _ (by kernel_rfl) (by kernel_rfl) hl)).trans (dep_of (Fact := F_undf g g4 b8 b9 b10 nk nf f1 f2 f3 fb fo n1 n2 hf) hd 8 (by kernel_rfl))
        exact wpList_off rfl (t := 102) (d := false) (by kernel_rfl) eg (by decide) ⟨_, rfl, RG.same _ _ _ _, rfl⟩
      · intro vs w' F hb hd hF hl hT hq
        have eg := ((hF 102).trans (look_at _ 102 8 _ _ (by kernel_rfl) (by kernel_rfl) hl)).trans (dep_of (Fact := F_undf g g4 b8 b9 b10 nk nf f1 f2 f3 fb fo n1 n2 hf) hd 8 (by kernel_rfl))
        exact wpList_off rfl (t := 102) (d := false) (by kernel_rfl) eg (by decide) ⟨_, rfl, RG.same _ _ _ _, rfl⟩
      · intro vs w' F hb hd hF hl hT hq
        have ec := ((hF 102).trans (look_at _ 102 8 _ _ (by kernel_rfl) (by kernel_rfl) hl)).trans (dep_of (Fact := F_undf g g4 b8 b9 b10 nk nf f1 f2 f3 fb fo n1 n2 hf) hd 8 (by kernel_rfl))
        exact one_pick_f _ _ _ rfl rfl _ ec rfl ⟨_, rfl, RG.same _ _ _ _, rfl⟩
      · intro vs w' F hb hd hF hl hT hq
        have e := (((hF 94).trans (look_at _ 94 0 _ _ (by kernel_rfl) (by kernel_rfl) hl)).trans (dep_of (Fact := F_undf g g4 b8 b9 b10 nk nf f1 f2 f3 fb fo n1 n2 hf) hd 0 (by kernel_rfl)))
        have e4 := (hF 4).trans (look_out _ 4 _ _ (by kernel_rfl))
        have hbw := hq rfl
        refine wpList_store_rowP rfl 45 (.tmp 4) (.tmp 94) rfl g4 #[.int .i64 6, .string nk, .string nf, .string (⟨#[]⟩ : ByteArray), .int .i64 0, .string (⟨#[]⟩ : ByteArray), .int .i64 f2, .int .i64 f3, .string (⟨#[]⟩ : ByteArray), .slice none 0 0] e4 e _ _ (heap_below HRESD.out hbw) (by kernel_rfl) rfl (by simp [Value.oneCell']) ?_
        intro w9 hput
        exact ⟨_, rfl, RG.at_ rfl (gb_put hput), hput.here⟩
    · intro vs8 W8 hl hb hI
      have i0 : vs8.getD 0 undef = .agg #[.int .i64 6, .string nk, .string nf, .string (⟨#[]⟩ : ByteArray), .int .i64 0, .string (⟨#[]⟩ : ByteArray), .int .i64 f2, .int .i64 f3, .string (⟨#[]⟩ : ByteArray), .slice none 0 0] := hI 0 (by omega)
      have i16 : vs8.getD 16 undef = .bool false := hI 16 (by omega)
      obtain ⟨x0, x1, x2, x3, x4, x5, x6, x7, x8, x9, x10, x11, x12, x13, x14, x15, x16, x17, x18, hvs⟩ := list19 hl
      subst hvs
      replace i0 : x0 = .agg #[.int .i64 6, .string nk, .string nf, .string (⟨#[]⟩ : ByteArray), .int .i64 0, .string (⟨#[]⟩ : ByteArray), .int .i64 f2, .int .i64 f3, .string (⟨#[]⟩ : ByteArray), .slice none 0 0] := i0
      replace i16 : x16 = .bool false := i16
      subst i0 i16
      have hh := hI 17 (by omega)
      have HH8 := Lib.hid (show W8.heap[g4]? = some (.cells #[.int .i64 6, .string nk, .string nf, .string (⟨#[]⟩ : ByteArray), .int .i64 0, .string (⟨#[]⟩ : ByteArray), .int .i64 f2, .int .i64 f3, .string (⟨#[]⟩ : ByteArray), .slice none 0 0] 45 (0, 0)) from hh)
      have HBW := Lib.hid (show Below W.heap.size W W8 from HBD.out.trans ⟨hb.os, hb.tape, hb.output, hb.size, fun k hk => hb.block k (by have := HBD.out.size; omega) (fun e => by have := HG.out; injection e; omega)⟩)
      clear hI hl hb hh
      simp only [fillAll, Act.put, List.setIfInBounds_toArray, List.set_cons_succ, List.set_cons_zero, List.drop_succ_cons, List.drop_zero]
      go_wp2_with fail
      have hh := HH8.out
      refine bodyPost_ret (results_ct Tryd.results12 _ _ g4 45 #[.int .i64 6, .string nk, .string nf, .string (⟨#[]⟩ : ByteArray), .int .i64 0, .string (⟨#[]⟩ : ByteArray), .int .i64 f2, .int .i64 f3, .string (⟨#[]⟩ : ByteArray), .slice none 0 0] (0, 0) _ rfl hh Tryd.underlying45 rfl (by kernel_rfl)) rfl ?_
      exact InvPost.mk HVV.out HBR.out HBW.out
end Go.Proofs.YtijeninfmjhbnaaDoor
end
