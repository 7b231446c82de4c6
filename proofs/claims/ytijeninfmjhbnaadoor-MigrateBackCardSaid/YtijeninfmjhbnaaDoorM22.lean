/- Lemmas for the law MigrateBack: RefAft4. No conditions. -/
import Derived.Test.YtijeninfmjhbnaaDoorM19
import Derived.Deep.DeepMust
import Derived.OwnWalk
import Derived.Deep.LoopGhost
import Derived.Deep.DeepCutAuto
import Derived.Deep.CutRange
/- tourref3.KindsAfter, for moves that are 4. By program (gen_refaft.py). -/
section
namespace Go.Proofs.YtijeninfmjhbnaaDoor
open Go.ChangeShapes Go.WideShapes Go.ChangeAt Go.RowKit Go.Nm Go.Mem
set_option linter.unusedVariables false
set_option maxHeartbeats 16000000 in
set_option maxRecDepth 100000 in
theorem ref_after_4 (ks : List KindV) (ka : Option Addr) (n kc : Nat) (hn : ks.length = n) (h1 : n ≤ 1000000) (hv : ∀ k ∈ ks, k.fields.length ≤ 1000000) (y : MoveV) (a : Option Addr) (c : Nat) (W : World) (hz : SlAt 2 KindAt W ka ks) (hy : MvFine W y a c) (hp : pE ks y = 0) (hd : y.do_ = 4) :
    Calls Tryd.prog 13 #[.slice ka n kc, .agg #[.int .i64 4, .string y.kind, .string y.field, .string y.name, .int .i64 y.value, .string y.new.name, .int .i64 y.new.bits, .int .i64 y.new.low, .string y.whole.name, .slice a y.whole.fields.length c]] W (OnePost ks y W) := by
  obtain ⟨E2, hE2⟩ : ∃ e, e = oneE ks y := ⟨_, rfl⟩
  obtain ⟨K2, hK2⟩ : ∃ k, k = oneK ks y := ⟨_, rfl⟩
  have hek : E2 = kindsE K2 := by rw [hE2, hK2]; unfold oneE; rw [if_neg (by rw [hp]; simp)]
  obtain ⟨I, hI⟩ : ∃ I, I = iK ks y := ⟨_, rfl⟩
  obtain ⟨J, hJ⟩ : ∃ J, J = jW ks y := ⟨_, rfl⟩
  have hrk : K2 = kindsR y I J ks ks.length ++ (if y.do_ = 0 then [y.whole] else []) := by rw [hK2, ← refK_eq hp, hI, hJ]; rfl
  have HEK := Lib.hid hek
  have HE2 := Lib.hid hE2
  have HK2 := Lib.hid hK2
  have HRK := Lib.hid hrk
  have hI0 : ¬ I < 0 := by rw [hI]; exact (pE_zero hp).2.1 (by rw [hd]; decide)
  have tI0 := decide_eq_false hI0
  have hJ0 : ¬ J < 0 := by rw [hJ]; unfold jW; rw [if_neg (by rw [← hI]; exact hI0)]; exact (pE_zero hp).2.2 (by rw [hd]; decide)
  have tJ0 := decide_eq_false hJ0
  have hb0 := (Below.refl W.heap.size W).alloc (Nat.le_refl _) (.cells #[.int .i64 4, .string y.kind, .string y.field, .string y.name, .int .i64 y.value, .string y.new.name, .int .i64 y.new.bits, .int .i64 y.new.low, .string y.whole.name, .slice a y.whole.fields.length c] 45)
  have hrow := heap_alloc_new W (.cells #[.int .i64 4, .string y.kind, .string y.field, .string y.name, .int .i64 y.value, .string y.new.name, .int .i64 y.new.bits, .int .i64 y.new.low, .string y.whole.name, .slice a y.whole.fields.length c] 45)
  obtain ⟨w0, hw0⟩ : ∃ w, w = W.alloc (.cells #[.int .i64 4, .string y.kind, .string y.field, .string y.name, .int .i64 y.value, .string y.new.name, .int .i64 y.new.bits, .int .i64 y.new.low, .string y.whole.name, .slice a y.whole.fields.length c] 45) := ⟨_, rfl⟩
  rw [← hw0] at hb0 hrow
  have cW := ref_where ks ka n kc hn (by omega) (fun k hk => by have := hv k hk; omega) y w0 (hz.below KindAt.abides hb0)
  rw [← hI, ← hJ] at cW
  obtain ⟨nk, hnk⟩ : ∃ x, x = y.kind := ⟨_, rfl⟩
  obtain ⟨nf, hnf⟩ : ∃ x, x = y.field := ⟨_, rfl⟩
  obtain ⟨nm, hnm⟩ : ∃ x, x = y.name := ⟨_, rfl⟩
  obtain ⟨vv, hvv⟩ : ∃ x, x = y.value := ⟨_, rfl⟩
  obtain ⟨fn, hfn⟩ : ∃ x, x = y.new.name := ⟨_, rfl⟩
  obtain ⟨fb, hfb⟩ : ∃ x, x = y.new.bits := ⟨_, rfl⟩
  obtain ⟨fo, hfo⟩ : ∃ x, x = y.new.low := ⟨_, rfl⟩
  obtain ⟨wn, hwn⟩ : ∃ x, x = y.whole.name := ⟨_, rfl⟩
  obtain ⟨wl, hwl⟩ : ∃ x, x = y.whole.fields.length := ⟨_, rfl⟩
  rw [← hnk, ← hnf, ← hnm, ← hvv, ← hfn, ← hfb, ← hfo, ← hwn, ← hwl] at hrow hw0 ⊢
  rw [← hnk, ← hnf] at cW
  obtain ⟨g, hg⟩ : ∃ g, g = W.heap.size := ⟨_, rfl⟩
  rw [← hg] at hrow
  have HB := Lib.hid hb0
  have HROW := Lib.hid hrow
  have HW0 := Lib.hid hw0
  have HG := Lib.hid hg
  have HN := Lib.hid hn
  have H1 := Lib.hid h1
  have HV := Lib.hid hv
  have HZ := Lib.hid hz
  have HY := Lib.hid hy
  have HD := Lib.hid hd
  have HNM := Lib.hid (And.intro hnm (And.intro hfn (And.intro hfb (And.intro hfo (And.intro hwn hwl)))))
  have CW := Lib.hid cW
  have r0 := cell_of_row _ _ 0 _ _ _ hrow
  have r1 := cell_of_row _ _ 1 _ _ _ hrow
  have r2 := cell_of_row _ _ 2 _ _ _ hrow
  rw [hw0, hg] at r0 r1 r2
  clear hek hE2 hK2 hrk hp hb0 hrow hw0 hg hn h1 hv hz hy hd hnk hnf hnm hvv hfn hfb hfo hwn hwl cW hI hJ hI0 hJ0
  go_enter Tryd.func13, Tryd.ntmps13
  go_wp2_with fail
  rw [← HW0.out]
  refine CW.out.mono ?_
  rintro e w1 ⟨rfl, hb1⟩
  replace HB := Lib.hid (bt HB.out hb1)
  replace HROW := Lib.hid (heap_below HROW.out hb1)
  have HOUT := Lib.hid (OutK.nil (g + 1) w1)
  have HGS := Lib.hid (show g + 1 ≤ w1.heap.size from lt_of_heap HROW.out)
  have r0 := cell_of_row _ _ 0 _ _ _ HROW.out
  rw [HG.out] at r0
  clear hb1 CW HW0
  go_wp2_with fail
  rw [← HG.out]
  clear r0
  go_loopg [8, 9, 10, 11, 12, 13, 14, 51] n (fun gk v8 _ _ _ _ _ _ vi wx => ∃ i : Nat, i ≤ n ∧ gk = n - i ∧ vi = .int .i64 i ∧ Hid (OutK (g + 1) wx v8 (kindsR y I J ks i)) ∧ Hid (Below W.heap.size W wx) ∧ Hid (wx.heap[g]? = some (.cells #[.int .i64 4, .string nk, .string nf, .string nm, .int .i64 vv, .string fn, .int .i64 fb, .int .i64 fo, .string wn, .slice a wl c] 45 (0, 0))) ∧ Hid (g + 1 ≤ wx.heap.size))
  case atStart => exact ⟨0, Nat.zero_le _, rfl, rfl, HOUT, HB, HROW, HGS⟩
  case round =>
    clear HOUT HB HROW HGS
    obtain ⟨i, hi, g2, rfl, HOUT, HB, HROW, HGS⟩ := hrel
    rename World => wo
    have G2 := Lib.hid g2
    clear g2
    by_cases hlt : i < n
    · obtain ⟨x, rfl, _, _⟩ := HZ.out (by rw [HN.out]; omega)
      obtain ⟨kb, ko, rfl, xa, xc, hck, hxn, hx1, hx2, hxf⟩ := kind_cells (HZ.out.below KindAt.abides HB.out) i (by rw [HN.out]; exact hlt)
      obtain ⟨k, hk⟩ : ∃ k, k = ks[i]'(by rw [HN.out]; exact hlt) := ⟨_, rfl⟩
      rw [← hk] at hck hxn hx1 hxf
      have hfl : k.fields.length ≤ 1000000 := HV.out k (by rw [hk]; exact List.getElem_mem _)
      obtain ⟨xl, hxl⟩ : ∃ m, m = k.fields.length := ⟨_, rfl⟩
      obtain ⟨xn, hxn2⟩ : ∃ m, m = k.name := ⟨_, rfl⟩
      rw [← hxl, ← hxn2] at hck
      rw [← hxl] at hfl
      have q0 := hck 0 _ rfl
      have q1 := hck 1 _ rfl
      rw [Nat.add_zero] at q0
      have hbx := (Below.refl wo.heap.size wo).alloc (Nat.le_refl _) (.cells #[.string xn, .slice xa xl xc] 43)
      obtain ⟨wA, hwA⟩ : ∃ w, w = wo.alloc (.cells #[.string xn, .slice xa xl xc] 43) := ⟨_, rfl⟩
      have hby := (Below.refl wA.heap.size wA).alloc (Nat.le_refl _) (.cells #[.string xn, .slice none 0 0] 43)
      have hyb := YBox.new (w := wA) (nm := xn)
      obtain ⟨wB, hwB⟩ : ∃ w, w = wA.alloc (.cells #[.string xn, .slice none 0 0] 43) := ⟨_, rfl⟩
      rw [← hwA] at hbx
      rw [← hwB] at hby hyb
      have hsz : wA.heap.size = wo.heap.size + 1 := by rw [hwA, World.size_alloc]
      obtain ⟨b, hb⟩ : ∃ b, b = wo.heap.size + 1 := ⟨_, rfl⟩
      rw [hsz, ← hb] at hyb
      have HBB := Lib.hid hb
      have HWA := Lib.hid (show wA.heap.size = b by rw [hsz, hb])
      have HAB := Lib.hid (show Below wA.heap.size wA wB from hby)
      have HXA := Lib.hid (show Below wo.heap.size wo wA from hbx)
      have HXF := Lib.hid hxf
      have HGB := Lib.hid (show g < b by have := HGS.out; omega)
      rw [hwA] at hwB
      have HWB := Lib.hid hwB
      have HYB := Lib.hid (show ∃ V, YBox b wB xn V (fldsR y I J i k.fields 0) from ⟨_, hyb⟩)
      have HXL := Lib.hid hxl
      have HXN := Lib.hid hxn2
      have HK := Lib.hid hk
      have HFLB := Lib.hid hfl
      have HXS := Lib.hid hxn
      have tn := decide_eq_true (show (i : Int) < n by omega)
      clear hck hxn hx1 hx2 hxf hk hxl hxn2 hfl hbx hby hyb hwA hwB hsz hb
      go_wp2_with fail
      rw [← HWB.out, ← HBB.out]
      clear q0 q1 HWB
      go_loopg [12, 13, 14, 62] xl (fun gk _ _ _ vi wx => ∃ p : Nat, p ≤ xl ∧ gk = xl - p ∧ vi = .int .i64 p ∧ Hid (∃ V, YBox b wx xn V (fldsR y I J i k.fields p)) ∧ Hid (Below wA.heap.size wA wx))
      case atStart => exact ⟨0, Nat.zero_le _, rfl, rfl, HYB, HAB⟩
      case round =>
        clear HYB HAB
        obtain ⟨p, hp, g2, rfl, HYB, HAB⟩ := hrel
        have F2 := Lib.hid g2
        clear g2
        have HRX := Lib.hid (show Below wo.heap.size wo wr from bt HXA.out HAB.out)
        have HRW := Lib.hid (heap_below HROW.out HRX.out)
        by_cases hlp : p < xl
        · have hpk : p < k.fields.length := by rw [← HXL.out]; exact hlp
          obtain ⟨x0, rfl, _, _⟩ := HXF.out (by omega)
          obtain ⟨qb, qo, rfl, hcf⟩ := fld_cells (HXF.out.below FieldAt.abides HRX.out) p hpk
          obtain ⟨f, hf⟩ : ∃ f, f = k.fields[p] := ⟨_, rfl⟩
          have hfs := flds_names HXF.out f (by rw [hf]; exact List.getElem_mem _)
          rw [← hf] at hcf
          obtain ⟨f1, hf1⟩ : ∃ x, x = f.name := ⟨_, rfl⟩
          obtain ⟨f2, hf2⟩ : ∃ x, x = f.bits := ⟨_, rfl⟩
          obtain ⟨f3, hf3⟩ : ∃ x, x = f.low := ⟨_, rfl⟩
          rw [← hf1, ← hf2, ← hf3] at hcf
          have q0 := hcf 0 _ rfl
          have q1 := hcf 1 _ rfl
          have q2 := hcf 2 _ rfl
          rw [Nat.add_zero] at q0
          have HST := Lib.hid (show fldsR y I J i k.fields (p + 1) = fldsR y I J i k.fields p ++ fld1 y (decide ((i : Int) = I) && decide ((p : Int) = J)) f by rw [hf]; show _ ++ _ = _; rw [getD_is hpk]; rfl)
          have HFE := Lib.hid (show f = ⟨f1, f2, f3⟩ by rw [hf1, hf2, hf3])
          have HFS := Lib.hid (show f1.size ≤ 9223372036854775807 by rw [hf1]; exact hfs)
          have hbf := (Below.refl wr.heap.size wr).alloc (Nat.le_refl _) (.cells #[.string f1, .int .i64 f2, .int .i64 f3] 40)
          have r0 := cell_of_row _ _ 0 _ _ _ (heap_below HRW.out hbf)
          have HLP := Lib.hid (show ∃ k, p + 1 + k = xl from ⟨xl - (p + 1), by omega⟩)
          have w9 : IntKind.i64.wrap ((p : Int) + 1) = ((p + 1 : Nat) : Int) := by have := HFLB.out; rw [IntKind.wrap_i64]; omega
          have tp := decide_eq_true (show (p : Int) < xl by omega)
          clear hcf hf hfs hf1 hf2 hf3 hpk hbf
          by_cases b1 : (i : Int) = I
          · have t1 : ((i : Int) == I) = true := by simpa using b1
            have HB1 := Lib.hid b1
            clear b1
            by_cases b2 : (p : Int) = J
            · have t2 : ((p : Int) == J) = true := by simpa using b2
              have HB2 := Lib.hid b2
              clear b2
              have HNX := Lib.hid (show fldsR y I J i k.fields (p + 1) = fldsR y I J i k.fields p by rw [HST.out, HFE.out]; unfold fld1; rw [decide_eq_true HB1.out, decide_eq_true HB2.out, HD.out]; exact List.append_nil _)
              have hbf2 := (Below.refl wr.heap.size wr).alloc (Nat.le_refl _) (.cells #[.string f1, .int .i64 f2, .int .i64 f3] 40 (0, 0))
              have HY2 := Lib.hid (show ∃ V, YBox b (wr.alloc (.cells #[.string f1, .int .i64 f2, .int .i64 f3] 40 (0, 0))) xn V (fldsR y I J i k.fields (p + 1)) from by rw [HNX.out]; obtain ⟨V, h⟩ := HYB.out; exact ⟨V, h.below hbf2⟩)
              have HAB2 := Lib.hid (bt HAB.out hbf2)
              clear HNX HST hbf2
              go_wp2_with fail
              clear r0 q0 q1 q2
              go_roundg (xl - (p + 1))
              case measure => rw [F2.out]; obtain ⟨k, hk⟩ := HLP.out; omega
              case rel => obtain ⟨k, hk⟩ := HLP.out; exact ⟨p + 1, by omega, rfl, (by first | rfl | go_num | simp), HY2, HAB2⟩
            · have t2 : ((p : Int) == J) = false := by simpa using b2
              have HB2 := Lib.hid b2
              clear b2
              have HNX := Lib.hid (show fldsR y I J i k.fields (p + 1) = fldsR y I J i k.fields p ++ [⟨f1, f2, f3⟩] by rw [HST.out, HFE.out]; unfold fld1; rw [decide_eq_true HB1.out, decide_eq_false HB2.out, HD.out]; simp)
              obtain ⟨V, hyb⟩ := HYB.out
              have hflc := fldsR_len y I J i k.fields p
              obtain ⟨FP, hFP⟩ : ∃ l, l = fldsR y I J i k.fields p := ⟨_, rfl⟩
              rw [← hFP] at hyb hflc HNX
              obtain ⟨pl, hpl⟩ : ∃ m, m = FP.length := ⟨_, rfl⟩
              rw [← hpl] at hflc
              have hbf2 := (Below.refl wr.heap.size wr).alloc (Nat.le_refl _) (.cells #[.string f1, .int .i64 f2, .int .i64 f3] 40 (0, 0))
              have hbl := (Below.refl (wr.alloc (.cells #[.string f1, .int .i64 f2, .int .i64 f3] 40 (0, 0))).heap.size (wr.alloc (.cells #[.string f1, .int .i64 f2, .int .i64 f3] 40 (0, 0)))).alloc (Nat.le_refl _) (.cells #[.string f1, .int .i64 f2, .int .i64 f3] 40 (0, 0))
              have c1 := cell_abides hyb.c1 hbf2
              have hybL := hyb.below (bt hbf2 hbl)
              have hownL := hybL.fo.1
              rw [← hpl] at hownL
              have hclL := new_cells (wr.alloc (.cells #[.string f1, .int .i64 f2, .int .i64 f3] 40 (0, 0))) #[.string f1, .int .i64 f2, .int .i64 f3] 40
              rw [World.size_alloc] at hclL
              have hnL : pl + 1 ≤ maxLen := by have := HFLB.out; unfold maxLen; omega
              have hyL : (pl + 1) * 32 ≤ 140737488355328 := by have := HFLB.out; omega
              have hbL : b + 1 ≤ ((wr.alloc (.cells #[.string f1, .int .i64 f2, .int .i64 f3] 40 (0, 0))).alloc (.cells #[.string f1, .int .i64 f2, .int .i64 f3] 40 (0, 0))).heap.size := by have := hybL.blk.lt; omega
              have HYL := Lib.hid hybL
              have HABL := Lib.hid (bt HAB.out (bt hbf2 hbl))
              have HPL := Lib.hid hpl
              obtain ⟨va, vc, hvs, _, _, _, _⟩ := hyb.fo.sl
              obtain ⟨vl, hvl⟩ : ∃ m, m = FP.length := ⟨_, rfl⟩
              rw [← hvl] at hvs
              clear hvl
              subst hvs
              clear hflc hFP hpl hbf2 hbl hybL hyb HST
              go_wp2_with (at_builtin; go_must (refine wpList_append_cells rfl _ _ 41 rfl (b + 1) 40 (.agg #[.string ByteArray.empty, .int .i64 0, .int .i64 0]) 3 32 Tryd.underlying41 inf_fld3 rfl (by decide) _ pl (fvals FP) rfl hownL (some ⟨wr.heap.size + 1, 0, none⟩) 1 1 [.string f1, .int .i64 f2, .int .i64 f3] rfl rfl hclL (by simp [Value.oneCell']) hnL hyL hbL ?_))
              intro v2 w2 hown2 hg2 hor2
              rw [HPL.out] at hown2
              obtain ⟨hy2, ⟨z2, hz2⟩, hfz2, hfo2⟩ := HYL.out.push (f := ⟨f1, f2, f3⟩) hg2 hown2 HFS.out
              obtain ⟨va2, vc2, hv2, _, _, _, _⟩ := hfo2.sl
              obtain ⟨vl2, hvl2⟩ : ∃ m, m = (FP ++ [(⟨f1, f2, f3⟩ : FieldV)]).length := ⟨_, rfl⟩
              rw [← hvl2] at hv2
              clear hvl2
              subst hv2
              have HY2 := Lib.hid (show ∃ V, YBox b (w2.setCell ⟨b, 1, none⟩ (.slice va2 vl2 vc2)) xn V (fldsR y I J i k.fields (p + 1)) from ⟨_, by rw [HNX.out]; exact hy2⟩)
              have HAB2 := Lib.hid (show Below wA.heap.size wA (w2.setCell ⟨b, 1, none⟩ (.slice va2 vl2 vc2)) from (HABL.out.grown hg2 HABL.out.size (fun r h => by have := (HYL.out.fo.lt r h).1; have := HWA.out; omega)).setCell (by have := HWA.out; show _ ≤ b; omega) _)
              clear hown2 hg2 hor2 hy2 hfo2 HYL HABL HNX hownL hclL hnL hyL hbL c1 r0 q0 q1 q2
              go_wp2_with fail
              go_roundg (xl - (p + 1))
              case measure => rw [F2.out]; obtain ⟨k, hk⟩ := HLP.out; omega
              case rel => obtain ⟨k, hk⟩ := HLP.out; exact ⟨p + 1, by omega, rfl, (by first | rfl | go_num | simp), HY2, HAB2⟩
          · have t1 : ((i : Int) == I) = false := by simpa using b1
            have HB1 := Lib.hid b1
            clear b1
            have HNX := Lib.hid (show fldsR y I J i k.fields (p + 1) = fldsR y I J i k.fields p ++ [⟨f1, f2, f3⟩] by rw [HST.out, HFE.out]; unfold fld1; rw [decide_eq_false HB1.out, HD.out]; simp)
            obtain ⟨V, hyb⟩ := HYB.out
            have hflc := fldsR_len y I J i k.fields p
            obtain ⟨FP, hFP⟩ : ∃ l, l = fldsR y I J i k.fields p := ⟨_, rfl⟩
            rw [← hFP] at hyb hflc HNX
            obtain ⟨pl, hpl⟩ : ∃ m, m = FP.length := ⟨_, rfl⟩
            rw [← hpl] at hflc
            have hbf2 := (Below.refl wr.heap.size wr).alloc (Nat.le_refl _) (.cells #[.string f1, .int .i64 f2, .int .i64 f3] 40 (0, 0))
            have hbl := (Below.refl (wr.alloc (.cells #[.string f1, .int .i64 f2, .int .i64 f3] 40 (0, 0))).heap.size (wr.alloc (.cells #[.string f1, .int .i64 f2, .int .i64 f3] 40 (0, 0)))).alloc (Nat.le_refl _) (.cells #[.string f1, .int .i64 f2, .int .i64 f3] 40 (0, 0))
            have c1 := cell_abides hyb.c1 hbf2
            have hybL := hyb.below (bt hbf2 hbl)
            have hownL := hybL.fo.1
            rw [← hpl] at hownL
            have hclL := new_cells (wr.alloc (.cells #[.string f1, .int .i64 f2, .int .i64 f3] 40 (0, 0))) #[.string f1, .int .i64 f2, .int .i64 f3] 40
            rw [World.size_alloc] at hclL
            have hnL : pl + 1 ≤ maxLen := by have := HFLB.out; unfold maxLen; omega
            have hyL : (pl + 1) * 32 ≤ 140737488355328 := by have := HFLB.out; omega
            have hbL : b + 1 ≤ ((wr.alloc (.cells #[.string f1, .int .i64 f2, .int .i64 f3] 40 (0, 0))).alloc (.cells #[.string f1, .int .i64 f2, .int .i64 f3] 40 (0, 0))).heap.size := by have := hybL.blk.lt; omega
            have HYL := Lib.hid hybL
            have HABL := Lib.hid (bt HAB.out (bt hbf2 hbl))
            have HPL := Lib.hid hpl
            obtain ⟨va, vc, hvs, _, _, _, _⟩ := hyb.fo.sl
            obtain ⟨vl, hvl⟩ : ∃ m, m = FP.length := ⟨_, rfl⟩
            rw [← hvl] at hvs
            clear hvl
            subst hvs
            clear hflc hFP hpl hbf2 hbl hybL hyb HST
            go_wp2_with (at_builtin; go_must (refine wpList_append_cells rfl _ _ 41 rfl (b + 1) 40 (.agg #[.string ByteArray.empty, .int .i64 0, .int .i64 0]) 3 32 Tryd.underlying41 inf_fld3 rfl (by decide) _ pl (fvals FP) rfl hownL (some ⟨wr.heap.size + 1, 0, none⟩) 1 1 [.string f1, .int .i64 f2, .int .i64 f3] rfl rfl hclL (by simp [Value.oneCell']) hnL hyL hbL ?_))
            intro v2 w2 hown2 hg2 hor2
            rw [HPL.out] at hown2
            obtain ⟨hy2, ⟨z2, hz2⟩, hfz2, hfo2⟩ := HYL.out.push (f := ⟨f1, f2, f3⟩) hg2 hown2 HFS.out
            obtain ⟨va2, vc2, hv2, _, _, _, _⟩ := hfo2.sl
            obtain ⟨vl2, hvl2⟩ : ∃ m, m = (FP ++ [(⟨f1, f2, f3⟩ : FieldV)]).length := ⟨_, rfl⟩
            rw [← hvl2] at hv2
            clear hvl2
            subst hv2
            have HY2 := Lib.hid (show ∃ V, YBox b (w2.setCell ⟨b, 1, none⟩ (.slice va2 vl2 vc2)) xn V (fldsR y I J i k.fields (p + 1)) from ⟨_, by rw [HNX.out]; exact hy2⟩)
            have HAB2 := Lib.hid (show Below wA.heap.size wA (w2.setCell ⟨b, 1, none⟩ (.slice va2 vl2 vc2)) from (HABL.out.grown hg2 HABL.out.size (fun r h => by have := (HYL.out.fo.lt r h).1; have := HWA.out; omega)).setCell (by have := HWA.out; show _ ≤ b; omega) _)
            clear hown2 hg2 hor2 hy2 hfo2 HYL HABL HNX hownL hclL hnL hyL hbL c1 r0 q0 q1 q2
            go_wp2_with fail
            go_roundg (xl - (p + 1))
            case measure => rw [F2.out]; obtain ⟨k, hk⟩ := HLP.out; omega
            case rel => obtain ⟨k, hk⟩ := HLP.out; exact ⟨p + 1, by omega, rfl, (by first | rfl | go_num | simp), HY2, HAB2⟩
        · obtain rfl : p = xl := by omega
          have r0 := cell_of_row _ _ 0 _ _ _ HRW.out
          have HST := Lib.hid (show kindsR y I J ks (i + 1) = kindsR y I J ks i ++ knd1 y I J i k by rw [HK.out]; show _ ++ _ = _; rw [getD_is (by rw [HN.out]; exact hlt)]; rfl)
          have hyb := HYB.out
          rw [HXL.out] at hyb
          have HYX := Lib.hid hyb
          have HLN := Lib.hid (show ∃ k, i + 1 + k = n from ⟨n - (i + 1), by omega⟩)
          have w9 : IntKind.i64.wrap ((i : Int) + 1) = ((i + 1 : Nat) : Int) := by have := H1.out; rw [IntKind.wrap_i64]; omega
          have HFC := Lib.hid (fldsR_len y I J i k.fields k.fields.length)
          obtain ⟨FR, hFR⟩ : ∃ l, l = fldsR y I J i k.fields k.fields.length := ⟨_, rfl⟩
          rw [← hFR] at HYX HFC
          have HFR := Lib.hid hFR
          clear hyb hFR HYB
          by_cases b1 : (i : Int) = I
          · have t1 : ((i : Int) == I) = true := by simpa using b1
            have t2 : ((i : Int) != I) = false := by simp [b1]
            have HB1 := Lib.hid b1
            clear b1
            obtain ⟨wq, hwq⟩ : ∃ w, w = wr := ⟨_, rfl⟩
            obtain ⟨LQ, hLQ⟩ : ∃ l, l = FR := ⟨_, rfl⟩
            have HYQ := Lib.hid (show ∃ V, YBox b wq xn V LQ by rw [hwq, hLQ]; exact HYX.out)
            have HRQ := Lib.hid (show Below wo.heap.size wo wq by rw [hwq]; exact HRX.out)
            have HLQ := Lib.hid (show LQ = LQ from rfl)
            have HLF := Lib.hid (hLQ.trans HFR.out)
            have HWQ := Lib.hid hwq
            rw [← hwq] at r0
            clear hwq hLQ HYX HRX
            rw [← HWQ.out]
            obtain ⟨VQ, hyq⟩ := HYQ.out
            obtain ⟨qa, qc, hqs, _, _, _, _⟩ := hyq.fo.sl
            obtain ⟨ql, hql⟩ : ∃ m, m = LQ.length := ⟨_, rfl⟩
            rw [← hql] at hqs
            clear hql
            subst hqs
            have c0 := hyq.c0
            have c1 := hyq.c1
            have hkq : kindsR y I J ks (i + 1) = kindsR y I J ks i ++ [⟨xn, LQ⟩] := by rw [HST.out, HLF.out]; unfold knd1; rw [decide_eq_true HB1.out, HD.out, HXN.out]; simp
            obtain ⟨KD, hKD⟩ : ∃ l, l = kindsR y I J ks i := ⟨_, rfl⟩
            have hkl := kindsR_len y I J ks i
            rw [← hKD] at hkq hkl
            have ho := HOUT.out
            rw [← hKD] at ho
            obtain ⟨OV, hor, hok⟩ := ho
            obtain ⟨dl, hdl⟩ : ∃ m, m = KD.length := ⟨_, rfl⟩
            rw [← hdl] at hkl
            have hbq := (Below.refl wq.heap.size wq).alloc (Nat.le_refl _) (.cells #[.string xn, .slice qa ql qc] 43 (0, 0))
            have HOL := Lib.hid (own_below hor (bt HRQ.out hbq))
            have HKL := Lib.hid (hok.below (bt HRQ.out hbq))
            have hownL := HOL.out
            rw [← hdl] at hownL
            have hclL := new_cells wq #[.string xn, .slice qa ql qc] 43
            have hnL : dl + 1 ≤ maxLen := by have := H1.out; unfold maxLen; omega
            have hyL : (dl + 1) * 40 ≤ 140737488355328 := by have := H1.out; omega
            have hbL : g + 1 ≤ (wq.alloc (.cells #[.string xn, .slice qa ql qc] 43 (0, 0))).heap.size := by have h1 := HGS.out; have h2 := (bt HRQ.out hbq).size; omega
            have HUQ := Lib.hid (hyq.fo.below hbq)
            have HBL := Lib.hid (bt HB.out (bt HRQ.out hbq))
            have HRL := Lib.hid (heap_below HROW.out (bt HRQ.out hbq))
            have HSL := Lib.hid (bt HRQ.out hbq)
            have HKQ := Lib.hid hkq
            have HDL := Lib.hid hdl
            clear hor hok hkl hkq hdl hKD hbq hyq
            go_wp2_with (at_builtin; go_must (refine wpList_append_cells rfl _ _ 22 rfl (g + 1) 43 (.agg #[.string ByteArray.empty, .slice none 0 0]) 2 40 Tryd.underlying22 inf_kind3 rfl (by decide) _ dl (kcells KD OV) rfl hownL (some ⟨wq.heap.size, 0, none⟩) 1 1 [.string xn, .slice qa ql qc] rfl rfl hclL (by simp [Value.oneCell']) hnL hyL hbL ?_))
            intro v9 w9 hown9 hg9 hor9
            have HO9 := Lib.hid (show OutK (g + 1) w9 v9 (kindsR y I J ks (i + 1)) by rw [HKQ.out]; exact OutK.push (k := ⟨xn, LQ⟩) HOL.out HKL.out ⟨_, HUQ.out⟩ (by rw [HXN.out]; exact HXS.out) (by rw [← HDL.out]; exact hown9) hg9)
            have HB9 := Lib.hid (show Below W.heap.size W w9 from HBL.out.grown hg9 HBL.out.size (fun r h => by have := (own_lt HOL.out r h).1; have := HG.out; omega))
            have HR9 := Lib.hid (show w9.heap[g]? = some (.cells #[.int .i64 4, .string nk, .string nf, .string nm, .int .i64 vv, .string fn, .int .i64 fb, .int .i64 fo, .string wn, .slice a wl c] 45 (0, 0)) by rw [hg9.block g (lt_of_heap HRL.out) (fun e => by have := (own_lt HOL.out g e.symm).1; omega)]; exact HRL.out)
            have HS9 := Lib.hid (show g + 1 ≤ w9.heap.size from lt_of_heap HR9.out)
            clear hown9 hg9 hor9 HOL HKL HUQ HBL HRL HSL HKQ HDL hownL hclL hnL hyL hbL c0 c1
            go_wp2_with fail
            go_roundg (n - (i + 1))
            case measure => rw [G2.out]; obtain ⟨k, hk⟩ := HLN.out; omega
            case rel => obtain ⟨k, hk⟩ := HLN.out; exact ⟨i + 1, by omega, rfl, (by first | rfl | go_num | simp), HO9, HB9, HR9, HS9⟩
          · have t1 : ((i : Int) == I) = false := by simpa using b1
            have t2 : ((i : Int) != I) = true := by rw [bne_iff_ne]; exact b1
            have HB1 := Lib.hid b1
            clear b1
            obtain ⟨wq, hwq⟩ : ∃ w, w = wr := ⟨_, rfl⟩
            obtain ⟨LQ, hLQ⟩ : ∃ l, l = FR := ⟨_, rfl⟩
            have HYQ := Lib.hid (show ∃ V, YBox b wq xn V LQ by rw [hwq, hLQ]; exact HYX.out)
            have HRQ := Lib.hid (show Below wo.heap.size wo wq by rw [hwq]; exact HRX.out)
            have HLQ := Lib.hid (show LQ = LQ from rfl)
            have HLF := Lib.hid (hLQ.trans HFR.out)
            have HWQ := Lib.hid hwq
            rw [← hwq] at r0
            clear hwq hLQ HYX HRX
            rw [← HWQ.out]
            obtain ⟨VQ, hyq⟩ := HYQ.out
            obtain ⟨qa, qc, hqs, _, _, _, _⟩ := hyq.fo.sl
            obtain ⟨ql, hql⟩ : ∃ m, m = LQ.length := ⟨_, rfl⟩
            rw [← hql] at hqs
            clear hql
            subst hqs
            have c0 := hyq.c0
            have c1 := hyq.c1
            have hkq : kindsR y I J ks (i + 1) = kindsR y I J ks i ++ [⟨xn, LQ⟩] := by rw [HST.out, HLF.out]; unfold knd1; rw [decide_eq_false HB1.out, HD.out, HXN.out]; simp
            obtain ⟨KD, hKD⟩ : ∃ l, l = kindsR y I J ks i := ⟨_, rfl⟩
            have hkl := kindsR_len y I J ks i
            rw [← hKD] at hkq hkl
            have ho := HOUT.out
            rw [← hKD] at ho
            obtain ⟨OV, hor, hok⟩ := ho
            obtain ⟨dl, hdl⟩ : ∃ m, m = KD.length := ⟨_, rfl⟩
            rw [← hdl] at hkl
            have hbq := (Below.refl wq.heap.size wq).alloc (Nat.le_refl _) (.cells #[.string xn, .slice qa ql qc] 43 (0, 0))
            have HOL := Lib.hid (own_below hor (bt HRQ.out hbq))
            have HKL := Lib.hid (hok.below (bt HRQ.out hbq))
            have hownL := HOL.out
            rw [← hdl] at hownL
            have hclL := new_cells wq #[.string xn, .slice qa ql qc] 43
            have hnL : dl + 1 ≤ maxLen := by have := H1.out; unfold maxLen; omega
            have hyL : (dl + 1) * 40 ≤ 140737488355328 := by have := H1.out; omega
            have hbL : g + 1 ≤ (wq.alloc (.cells #[.string xn, .slice qa ql qc] 43 (0, 0))).heap.size := by have h1 := HGS.out; have h2 := (bt HRQ.out hbq).size; omega
            have HUQ := Lib.hid (hyq.fo.below hbq)
            have HBL := Lib.hid (bt HB.out (bt HRQ.out hbq))
            have HRL := Lib.hid (heap_below HROW.out (bt HRQ.out hbq))
            have HSL := Lib.hid (bt HRQ.out hbq)
            have HKQ := Lib.hid hkq
            have HDL := Lib.hid hdl
            clear hor hok hkl hkq hdl hKD hbq hyq
            go_wp2_with (at_builtin; go_must (refine wpList_append_cells rfl _ _ 22 rfl (g + 1) 43 (.agg #[.string ByteArray.empty, .slice none 0 0]) 2 40 Tryd.underlying22 inf_kind3 rfl (by decide) _ dl (kcells KD OV) rfl hownL (some ⟨wq.heap.size, 0, none⟩) 1 1 [.string xn, .slice qa ql qc] rfl rfl hclL (by simp [Value.oneCell']) hnL hyL hbL ?_))
            intro v9 w9 hown9 hg9 hor9
            have HO9 := Lib.hid (show OutK (g + 1) w9 v9 (kindsR y I J ks (i + 1)) by rw [HKQ.out]; exact OutK.push (k := ⟨xn, LQ⟩) HOL.out HKL.out ⟨_, HUQ.out⟩ (by rw [HXN.out]; exact HXS.out) (by rw [← HDL.out]; exact hown9) hg9)
            have HB9 := Lib.hid (show Below W.heap.size W w9 from HBL.out.grown hg9 HBL.out.size (fun r h => by have := (own_lt HOL.out r h).1; have := HG.out; omega))
            have HR9 := Lib.hid (show w9.heap[g]? = some (.cells #[.int .i64 4, .string nk, .string nf, .string nm, .int .i64 vv, .string fn, .int .i64 fb, .int .i64 fo, .string wn, .slice a wl c] 45 (0, 0)) by rw [hg9.block g (lt_of_heap HRL.out) (fun e => by have := (own_lt HOL.out g e.symm).1; omega)]; exact HRL.out)
            have HS9 := Lib.hid (show g + 1 ≤ w9.heap.size from lt_of_heap HR9.out)
            clear hown9 hg9 hor9 HOL HKL HUQ HBL HRL HSL HKQ HDL hownL hclL hnL hyL hbL c0 c1
            go_wp2_with fail
            go_roundg (n - (i + 1))
            case measure => rw [G2.out]; obtain ⟨k, hk⟩ := HLN.out; omega
            case rel => obtain ⟨k, hk⟩ := HLN.out; exact ⟨i + 1, by omega, rfl, (by first | rfl | go_num | simp), HO9, HB9, HR9, HS9⟩
    · obtain rfl : i = n := by omega
      have r0 := cell_of_row _ _ 0 _ _ _ HROW.out
      obtain ⟨OV, hor, hok⟩ := HOUT.out
      have hkl := kindsR_len y I J ks i
      have hk2 : K2 = kindsR y I J ks i := by rw [HRK.out, HN.out, if_neg (by rw [HD.out]; decide), List.append_nil]
      rw [← hk2] at hor hok hkl
      obtain ⟨N, hNN⟩ : ∃ m, m = K2.length := ⟨_, rfl⟩
      rw [← hNN] at hor hkl
      obtain ⟨a4, c4, rfl, h4a, h4b, hsl⟩ := sl_of_row hNN.symm hor hok
      have cC := ref_KindsError K2 a4 N c4 hNN.symm (by have := H1.out; omega) wo hsl
      rw [← HEK.out] at cC
      have CC := Lib.hid cC
      have H4 := Lib.hid (And.intro h4a h4b)
      have HSL := Lib.hid hsl
      have HKL := Lib.hid (show K2.length = N from hNN.symm)
      have HB4 := HB
      have tn := decide_eq_false (show ¬ (i : Int) < i by omega)
      clear cC h4a h4b hsl hor hok hkl hk2 hNN HOUT
      go_wp2_with fail
      refine CC.out.mono ?_
      rintro e w5 ⟨rfl, hb5⟩
      have HB5 := Lib.hid (bt HB4.out hb5)
      have HSL5 := Lib.hid (HSL.out.below KindAt.abides hb5)
      clear hb5 CC
      by_cases he : E2 = 0
      · have HE := Lib.hid (HE2.out.symm.trans he)
        subst he
        go_wp2_with fail
        go_ret2
        exact OnePost.ok HE.out (by rw [← HK2.out]; exact HKL.out) H4.out.1 H4.out.2 (by rw [← HK2.out]; exact HSL5.out) HB5.out
      · have t1 : (E2 != 0) = true := by rw [bne_iff_ne]; exact he
        have HE := Lib.hid he
        clear he
        go_wp2_with fail
        go_ret2
        exact OnePost.bad HE2.out.symm HE.out HB5.out
end Go.Proofs.YtijeninfmjhbnaaDoor
end
