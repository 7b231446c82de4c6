/- Lemmas for the law TopDigestPlace: WInts, WDig, WBound, RegLk, H6. No conditions. -/
import Derived.Test.YtncnbfefciobcaaM12
import Derived.Test.YtncnbfefciobcaaM08
import Derived.Test.YtncnbfefciobcaaM16
import Derived.Test.YtncnbfefciobcaaM20
import Derived.Test.YtncnbfefciobcaaM22
import Derived.Test.YtncnbfefciobcaaM01
/- world.Ints. -/
section
namespace Go.Proofs.Ytncnbfefciobcaa
open Go.ChangeShapes Go.WideShapes Go.ChangeAt Go.RowKit Go.Mem
set_option linter.unusedVariables false
theorem allocs3_1 (w : World) (o1 o2 o3 : Obj) : (((w.alloc o1).alloc o2).alloc o3).heap[w.heap.size]? = some o1 := heap_keep (heap_keep (heap_alloc_new w o1) _) _
theorem allocs3_2 (w : World) (o1 o2 o3 : Obj) : (((w.alloc o1).alloc o2).alloc o3).heap[w.heap.size + 1]? = some o2 := by
  have := heap_keep (heap_alloc_new (w.alloc o1) o2) o3
  simpa using this
theorem allocs3_3 (w : World) (o1 o2 o3 : Obj) : (((w.alloc o1).alloc o2).alloc o3).heap[w.heap.size + 1 + 1]? = some o3 := by
  have := heap_alloc_new ((w.alloc o1).alloc o2) o3
  simpa using this
theorem allocs3_b (w : World) (o1 o2 o3 : Obj) : Below w.heap.size w (((w.alloc o1).alloc o2).alloc o3) := (((Below.refl w.heap.size w).alloc (Nat.le_refl _) o1).alloc (by simp) o2).alloc (by simp; omega) o3
set_option maxHeartbeats 16000000 in
set_option maxRecDepth 20000 in
theorem world_Ints (y : WorldV) (v : Value) (W : World) (hv : WorldIn W v y) (hfn : FineW y) : Calls Try.prog 26 #[v] W fun e w' => (∃ a c, e = .returned (.slice a (intsW y).length c) ∧ IntsAt .i64 w' a (intsW y)) ∧ Below W.heap.size W w' := by
  obtain ⟨ak, ck, ag, cg, ai, ci, rfl, hzk, hzg, hzi, hk1, hk2⟩ := hv
  have hdk := fun i (h : i < y.kinds.length) R => drop_flat kndI y.kinds i h R
  have hdi := fun i (h : i < y.items.length) R => drop_flat itemI y.items i h R
  have hek := drop_end kndI y.kinds
  have hei := drop_end itemI y.items
  obtain ⟨TOT, hTOT⟩ : ∃ T, T = intsW y := ⟨_, rfl⟩
  have htl := hfn.tot
  rw [← hTOT] at htl ⊢
  obtain ⟨TL, hTL⟩ : ∃ t, t = TOT.length := ⟨_, rfl⟩
  rw [← hTL] at htl
  have s1 := hfn.kl
  have s2 := hfn.gl
  have s3 := hfn.il
  have HK := Lib.hid hfn.k
  have HI := Lib.hid hfn.i
  unfold intsW at hTOT
  obtain ⟨nk, hnk⟩ : ∃ nk, nk = y.kinds.length := ⟨_, rfl⟩
  obtain ⟨ng, hng⟩ : ∃ ng, ng = y.gens.length := ⟨_, rfl⟩
  obtain ⟨ni, hni⟩ : ∃ ni, ni = y.items.length := ⟨_, rfl⟩
  rw [← hnk] at hk1 s1
  rw [← hng] at s2
  rw [← hni] at s3
  rw [← hnk, ← hng, ← hni]
  rw [← hnk, ← hng, ← hni] at hTOT
  rw [← hnk] at hek
  rw [← hni] at hei
  have hk0 : ((y.kinds.map kndI).flatten : List Int) = ((y.kinds.drop 0).map kndI).flatten := rfl
  have hi0 : ((y.items.map itemI).flatten : List Int) = ((y.items.drop 0).map itemI).flatten := rfl
  rw [hk0, hi0] at hTOT
  obtain ⟨FI, hFI⟩ : ∃ F : Nat → List Int, F = fun i => ((y.items.drop i).map itemI).flatten := ⟨_, rfl⟩
  obtain ⟨FK, hFK⟩ : ∃ F : Nat → List Int, F = fun i => ((y.kinds.drop i).map kndI).flatten := ⟨_, rfl⟩
  have hdk' : ∀ i (h : i < y.kinds.length) R, FK i ++ R = kndI y.kinds[i] ++ (FK (i + 1) ++ R) := fun i h R => by rw [hFK]; exact hdk i h R
  have hdi' : ∀ i (h : i < y.items.length) R, FI i ++ R = itemI y.items[i] ++ (FI (i + 1) ++ R) := fun i h R => by rw [hFI]; exact hdi i h R
  have hek' : ∀ R, FK nk ++ R = R := fun R => by rw [hFK]; exact hek R
  have hei' : ∀ R, FI ni ++ R = R := fun R => by rw [hFI]; exact hei R
  have hTOT' : [(nk : Int)] ++ (FK 0 ++ ([(ng : Int)] ++ (y.gens ++ ([(ni : Int)] ++ FI 0)))) = TOT := by rw [hFK, hFI]; exact hTOT.symm
  have DK := Lib.hid hdk'
  have DI := Lib.hid hdi'
  have EK := Lib.hid hek'
  have EI := Lib.hid hei'
  have HT0 := Lib.hid hTOT'
  have HTL := Lib.hid hTL
  have NK := Lib.hid hnk
  have NG := Lib.hid hng
  have NI := Lib.hid hni
  have ZK := Lib.hid hzk
  have ZG := Lib.hid hzg
  have ZI := Lib.hid hzi
  have LEN := Lib.hid (fun (L R : List Int) (h : L ++ R = TOT) => (show L.length ≤ TL from by rw [hTL]; exact len_le h))
  clear hdk hdi hek hei hk0 hi0 hTOT hFI hFK hdk' hdi' hek' hei' hTOT' hTL hnk hng hni hzk hzg hzi hfn
  obtain ⟨o1, ho1⟩ : ∃ o : Obj, o = .cells #[.slice ak nk ck, .slice ag ng cg, .slice ai ni ci] 27 (0, 0) := ⟨_, rfl⟩
  obtain ⟨o2, ho2⟩ : ∃ o : Obj, o = .cells #[.int .i64 (nk : Int)] 3 (0, 0) := ⟨_, rfl⟩
  obtain ⟨o3, ho3⟩ : ∃ o : Obj, o = .cells #[.slice (some ⟨W.heap.size + 1, 0, none⟩) 1 1] 22 (0, 0) := ⟨_, rfl⟩
  have g1 := allocs3_1 W o1 o2 o3
  have g2 := allocs3_2 W o1 o2 o3
  have g3 := allocs3_3 W o1 o2 o3
  have gb := allocs3_b W o1 o2 o3
  rw [ho1, ho2, ho3] at g1 g2 g3 gb
  obtain ⟨B, hB⟩ : ∃ B, B = W.heap.size + 1 := ⟨_, rfl⟩
  obtain ⟨X, hX⟩ : ∃ X, X = W.heap.size + 1 + 1 := ⟨_, rfl⟩
  have hout0 : OutV (((W.alloc (.cells #[.slice ak nk ck, .slice ag ng cg, .slice ai ni ci] 27 (0, 0))).alloc (.cells #[.int .i64 (nk : Int)] 3 (0, 0))).alloc (.cells #[.slice (some ⟨W.heap.size + 1, 0, none⟩) 1 1] 22 (0, 0))) B X (.slice (some ⟨W.heap.size + 1, 0, none⟩) 1 1) [(nk : Int)] :=
    ⟨by omega, by rw [hX]; exact g3, ⟨rfl, Or.inr ⟨W.heap.size + 1, 1, #[.int .i64 (nk : Int)], rfl, by omega, g2, Nat.le_refl _, by decide, rfl, rfl⟩⟩⟩
  have hrow0 := g1
  have hb0 := gb
  have HOUT0 := Lib.hid hout0
  have HROW0 := Lib.hid hrow0
  have HB0 := Lib.hid hb0
  clear ho1 ho2 ho3 o1 o2 o3 g1 g2 g3 gb hout0 hrow0 hb0
  have HX := Lib.hid hX
  have hBX : B ≤ X := by omega
  have hNB : W.heap.size < B := by omega
  clear hB hX
  go_enter Try.func26, Try.ntmps26
  go_wp2_with fail
  obtain ⟨W0, hW0⟩ : ∃ W0, W0 = ((W.alloc (.cells #[.slice ak nk ck, .slice ag ng cg, .slice ai ni ci] 27 (0, 0))).alloc (.cells #[.int .i64 (nk : Int)] 3 (0, 0))).alloc (.cells #[.slice (some ⟨W.heap.size + 1, 0, none⟩) 1 1] 22 (0, 0)) := ⟨_, rfl⟩
  rw [← hW0] at HOUT0 HROW0 HB0 ⊢
  have hX := (show X = W.heap.size + 1 + 1 by have := HX.out; omega)
  rw [← hX]
  clear hX hW0
  have hT1 := step_eq HT0.out
  go_loopg [21, 6, 38, 8] nk (fun gk v1 _ _ _ wx => ∃ (i : Nat) (u : Value) (L : List Int), i ≤ nk ∧ gk = nk - i ∧ v1 = .int .i64 i ∧ OutV wx B X u L ∧ L ++ (FK i ++ ([(ng : Int)] ++ (y.gens ++ ([(ni : Int)] ++ FI 0)))) = TOT ∧ FrX B X W0 wx)
  case atStart => exact ⟨0, _, _, Nat.zero_le _, rfl, rfl, HOUT0.out, hT1, FrX.refl _ _ _⟩
  case round =>
    clear HOUT0 hT1
    obtain ⟨i, u, L, j1, j2, rfl, hout, hT, hfr⟩ := hrel
    have J2 := Lib.hid j2
    have HOUT := Lib.hid hout
    have HFR := Lib.hid hfr
    have HT := Lib.hid hT
    have hrowN := hfr.low hNB HROW0.out
    have HROWN := Lib.hid hrowN
    have hbW : Below W.heap.size W wr := HB0.out.trans (hfr.bel.mono (Nat.le_of_lt hNB))
    have HBW := Lib.hid hbW
    have hble := hout.ble
    clear j2 hout hfr hT hrowN
    by_cases hi : i < nk
    · obtain ⟨x, rfl, _, _⟩ := ZK.out (by rw [← NK.out]; omega)
      obtain ⟨kb, ko, rfl, af, cf, hclW, hnm, hnc, hcm, hfl⟩ := kind_cells ZK.out i (by rw [← NK.out]; exact hi)
      have hcl := hclW.below hbW
      clear hclW
      have hsz := HK.out _ (List.getElem_mem (by rw [← NK.out]; exact hi) : y.kinds[i]'(by rw [← NK.out]; exact hi) ∈ y.kinds)
      have hT := HT.out
      rw [DK.out i (by rw [← NK.out]; exact hi)] at hT
      obtain ⟨kk, hkk⟩ : ∃ kk, kk = y.kinds[i]'(by rw [← NK.out]; exact hi) := ⟨_, rfl⟩
      rw [← hkk] at hcl hnm hnc hfl hsz hT
      unfold kndI at hT
      obtain ⟨q1, q2, q3⟩ := hsz
      obtain ⟨FF, hFF⟩ : ∃ F : Nat → List Int, F = fun j => ((kk.fields.drop j).map fldI).flatten := ⟨_, rfl⟩
      have df : ∀ j (h : j < kk.fields.length) R, FF j ++ R = fldI kk.fields[j] ++ (FF (j + 1) ++ R) := fun j h R => by rw [hFF]; exact drop_flat fldI kk.fields j h R
      have ef : ∀ R, FF kk.fields.length ++ R = R := fun R => by rw [hFF]; exact drop_end fldI kk.fields R
      rw [show (kk.fields.map fldI).flatten = FF 0 from by rw [hFF]; rfl, List.append_assoc, List.append_assoc] at hT
      obtain ⟨nf, hnf⟩ : ∃ nf, nf = kk.fields.length := ⟨_, rfl⟩
      rw [← hnf] at hcl hT ef hnc q2
      obtain ⟨nm, hnmE⟩ : ∃ nm, nm = kk.name := ⟨_, rfl⟩
      rw [← hnmE] at hcl hT q1
      have e0 := hcl.at 0 (by simp)
      have e1 := hcl.at 1 (by simp)
      simp only [List.getElem_cons_zero, List.getElem_cons_succ, Nat.add_zero] at e0 e1
      have hrk := heap_alloc_new wr (.cells #[.string nm, .slice af nf cf] 53 (0, 0))
      have hbk : Below wr.heap.size wr (wr.alloc (.cells #[.string nm, .slice af nf cf] 53 (0, 0))) := (Below.refl _ _).alloc (Nat.le_refl _) _
      have hLl := LEN.out _ _ HT.out
      have CN := Lib.hid (ints_name nm q1 B X u L _ (HOUT.out.below hbk) (by omega))
      have HT1 := Lib.hid (step_eq hT)
      have hL1 := LEN.out _ _ HT1.out
      have HRK := Lib.hid hrk
      have HFL := Lib.hid hfl
      have HFK := Lib.hid (FrX.of_below (X := X) hble hbk)
      have DF := Lib.hid df
      have EF := Lib.hid ef
      have Q3 := Lib.hid q3
      have NF := Lib.hid hnf
      have hKX : wr.heap.size ≠ X := by have := HOUT.out.lt; omega
      obtain ⟨L1, hL1e⟩ : ∃ L1, L1 = L ++ nameI nm := ⟨_, rfl⟩
      rw [← hL1e] at CN HT1 hL1
      clear hcl hnm hnc hfl hkk hT hFF df ef hnf hnmE hrk hbk hL1e q3
      go_wp2_with (first
        | (go_at_call 45; refine CN.out.mono ?_; rintro e w2 ⟨rfl, ⟨v2, ho2⟩, hf2⟩; have HO2 := Lib.hid ho2; have HF2 := Lib.hid hf2; have c2 := ho2.cell; have rk2 := hf2.far _ _ _ _ HRK.out (by decide) hKX; have RK2 := Lib.hid rk2; have k21 := cell_of_row _ _ 1 _ _ _ rk2; clear ho2 hf2 rk2)
        | (at_builtin; go_must (refine wpList_out rfl _ _ rfl rfl _ _ rfl B X v2 L1 rfl (HO2.out.below ((Below.refl _ _).alloc (Nat.le_refl _) _)) (some ⟨w2.heap.size, 0, none⟩) 1 1 [(nf : Int)] rfl rfl (new_ints1 w2 (nf : Int)) (by omega) (fun u => rfl) (fun u => rfl) ?_); intro v3 w3 hout hfr; have HO3 := Lib.hid hout; have HF3 := Lib.hid ((FrX.of_below HO2.out.ble ((Below.refl w2.heap.size w2).alloc (Nat.le_refl _) (.cells #[.int .i64 (nf : Int)] 3))).trans hfr); have c3 := hout.cell; have rk3 := hfr.far _ _ _ _ (heap_keep RK2.out _) (by decide) hKX; have RK3 := Lib.hid rk3; have k31 := cell_of_row _ _ 1 _ _ _ rk3; clear rk3; clear hout hfr))
      have HT2 := Lib.hid (step_eq HT1.out)
      have hL2 := LEN.out _ _ HT2.out
      have HFA := Lib.hid (HFR.out.trans (HFK.out.trans (HF2.out.trans HF3.out)))
      clear CN HF2 HF3 HO2 RK2 HRK HFK c2 c3 k21 HROWN HT1
      obtain ⟨R1, hR1⟩ : ∃ R1, R1 = FK (i + 1) ++ ([(ng : Int)] ++ (y.gens ++ ([(ni : Int)] ++ FI 0))) := ⟨_, rfl⟩
      rw [← hR1] at HT2
      have HR1 := Lib.hid hR1
      clear hR1
      go_loopg [38, 8] nf (fun gk v1 _ wx => ∃ (j : Nat) (u : Value) (L : List Int), j ≤ nf ∧ gk = nf - j ∧ v1 = .int .i64 j ∧ OutV wx B X u L ∧ L ++ (FF j ++ R1) = TOT ∧ FrX B X W0 wx)
      case atStart => exact ⟨0, _, _, Nat.zero_le _, rfl, rfl, HO3.out, HT2.out, HFA.out⟩
      case round =>
        clear HO3 HT2 HFA RK3 k31 e0 e1
        obtain ⟨j, u, L, l1, l2, rfl, hout, hT, hfr⟩ := hrel
        have J3 := Lib.hid l2
        have HOUT := Lib.hid hout
        have HFR := Lib.hid hfr
        have HT := Lib.hid hT
        have hbW : Below W.heap.size W wr := HB0.out.trans (hfr.bel.mono (Nat.le_of_lt hNB))
        have hble := hout.ble
        have hLl := LEN.out _ _ hT
        clear l2 hout hfr hT
        by_cases hj : j < nf
        · obtain ⟨x, rfl, _, _⟩ := HFL.out (by rw [← NF.out]; omega)
          obtain ⟨fb, fo, rfl, hclW⟩ := fld_cells HFL.out j (by rw [← NF.out]; exact hj)
          have hcl := hclW.below hbW
          have hT := HT.out
          rw [DF.out j (by rw [← NF.out]; exact hj)] at hT
          have hsz := Q3.out _ (List.getElem_mem (by rw [← NF.out]; exact hj) : kk.fields[j]'(by rw [← NF.out]; exact hj) ∈ kk.fields)
          obtain ⟨ff, hff⟩ : ∃ ff, ff = kk.fields[j]'(by rw [← NF.out]; exact hj) := ⟨_, rfl⟩
          rw [← hff] at hcl hsz hT
          unfold fldI at hT
          rw [List.append_assoc] at hT
          obtain ⟨n2, hn2⟩ : ∃ n2, n2 = ff.name := ⟨_, rfl⟩
          obtain ⟨b2, hb2⟩ : ∃ b2, b2 = ff.bits := ⟨_, rfl⟩
          obtain ⟨l2, hl2⟩ : ∃ l2, l2 = ff.low := ⟨_, rfl⟩
          rw [← hn2] at hcl hsz hT
          rw [← hb2, ← hl2] at hcl hT
          have e0 := hcl.at 0 (by simp)
          have e1 := hcl.at 1 (by simp)
          have e2 := hcl.at 2 (by simp)
          simp only [List.getElem_cons_zero, List.getElem_cons_succ, Nat.add_zero] at e0 e1 e2
          have hrk := heap_alloc_new wr (.cells #[.string n2, .int .i64 b2, .int .i64 l2] 50 (0, 0))
          have hbk : Below wr.heap.size wr (wr.alloc (.cells #[.string n2, .int .i64 b2, .int .i64 l2] 50 (0, 0))) := (Below.refl _ _).alloc (Nat.le_refl _) _
          have CN := Lib.hid (ints_name n2 hsz B X u L _ (HOUT.out.below hbk) (by omega))
          have HT1 := Lib.hid (step_eq hT)
          have hL1 := LEN.out _ _ HT1.out
          have HRK := Lib.hid hrk
          have HFK := Lib.hid (FrX.of_below (X := X) hble hbk)
          have hKX : wr.heap.size ≠ X := by have := HOUT.out.lt; omega
          obtain ⟨L1, hL1e⟩ : ∃ L1, L1 = L ++ nameI n2 := ⟨_, rfl⟩
          rw [← hL1e] at CN HT1 hL1
          clear hcl hclW hff hT hn2 hb2 hl2 hrk hbk hL1e
          go_wp2_with (first
            | (go_at_call 45; refine CN.out.mono ?_; rintro e w2 ⟨rfl, ⟨v2, ho2⟩, hf2⟩; have HO2 := Lib.hid ho2; have HF2 := Lib.hid hf2; have c2 := ho2.cell; have rk2 := hf2.far _ _ _ _ HRK.out (by decide) hKX; have k21 := cell_of_row _ _ 1 _ _ _ rk2; have k22 := cell_of_row _ _ 2 _ _ _ rk2; clear ho2 hf2 rk2)
            | (at_builtin; go_must (refine wpList_out rfl _ _ rfl rfl _ _ rfl B X v2 L1 rfl (HO2.out.below ((Below.refl _ _).alloc (Nat.le_refl _) _)) (some ⟨w2.heap.size, 0, none⟩) 2 2 [b2, l2] rfl rfl (new_ints2 w2 b2 l2) (by omega) (fun u => rfl) (fun u => rfl) ?_); intro v3 w3 hout hfr; have HO3 := Lib.hid hout; have HF3 := Lib.hid ((FrX.of_below HO2.out.ble ((Below.refl w2.heap.size w2).alloc (Nat.le_refl _) (.cells #[.int .i64 b2, .int .i64 l2] 3))).trans hfr); skip; clear hout hfr))
          have HT2 := Lib.hid (step_eq HT1.out)
          have HFA := Lib.hid (HFR.out.trans (HFK.out.trans (HF2.out.trans HF3.out)))
          clear CN HF2 HF3 HO2 HRK HFK c2 k21 k22 HT1 e0 e1 e2
          go_roundg (nf - (j + 1))
          case measure => rw [J3.out]; omega
          case rel => exact ⟨j + 1, _, _, hj, rfl, by go_num, HO3.out, HT2.out, HFA.out⟩
        · obtain rfl : nf = j := by omega
          have hT := HT.out
          rw [EF.out, HR1.out] at hT
          have HT := Lib.hid hT
          clear hT
          go_wp2
          go_roundg (nk - (i + 1))
          case measure => rw [J2.out]; omega
          case rel => exact ⟨i + 1, _, _, hi, rfl, by go_num, HOUT.out, HT.out, HFR.out⟩
    · obtain rfl : nk = i := by omega
      have hT := HT.out
      rw [EK.out] at hT
      have HT0 := Lib.hid hT
      have HT1 := Lib.hid (step_eq hT)
      have HT2 := Lib.hid (step_eq HT1.out)
      have HT3 := Lib.hid (step_eq HT2.out)
      have hl0 := LEN.out _ _ HT0.out
      have hl1 := LEN.out _ _ HT1.out
      have hl2 := LEN.out _ _ HT2.out
      have hl3 := LEN.out _ _ HT3.out
      have c0 := HOUT.out.cell
      have r1 := cell_of_row _ _ 1 _ _ _ HROWN.out
      have r2 := cell_of_row _ _ 2 _ _ _ HROWN.out
      have ZGr := Lib.hid (ZG.out.below hbW)
      clear hT HT HT0

      go_wp2_with (first
        | (at_builtin; (refine wpList_out rfl _ _ rfl rfl _ _ rfl B X u L rfl (HOUT.out.below ((Below.refl _ _).alloc (Nat.le_refl _) _)) (some ⟨wr.heap.size, 0, none⟩) 1 1 [(ng : Int)] rfl rfl (new_ints1 wr (ng : Int)) (by omega) (fun u => rfl) (fun u => rfl) ?_); intro v5 w5 hout hfr; have HO5 := Lib.hid hout; have HF5 := Lib.hid ((FrX.of_below HOUT.out.ble ((Below.refl wr.heap.size wr).alloc (Nat.le_refl _) (.cells #[.int .i64 (ng : Int)] 3))).trans hfr); have hbW5 := HBW.out.trans (HF5.out.bel.mono (Nat.le_of_lt hNB)); have row5 := HF5.out.low hNB HROWN.out; have c5 := hout.cell; have r15 := cell_of_row _ _ 1 _ _ _ row5; have r25 := cell_of_row _ _ 2 _ _ _ row5; have ZG5 := Lib.hid (ZG.out.below hbW5); have HROWN5 := Lib.hid row5; have HBW5 := Lib.hid hbW5; clear hbW5 row5; clear hout hfr)
        | (at_builtin; (refine wpList_out rfl _ _ rfl rfl _ _ rfl B X v5 (L ++ [(ng : Int)]) rfl HO5.out ag ng cg y.gens rfl NG.out.symm ZG5.out (by have := hl2; rw [List.length_append, ← NG.out] at this; omega) (fun u => rfl) (fun u => rfl) ?_); intro v6 w6 hout hfr; have HO6 := Lib.hid hout; have HF6 := Lib.hid hfr; have hbW6 := HBW5.out.trans (HF6.out.bel.mono (Nat.le_of_lt hNB)); have row6 := HF6.out.low hNB HROWN5.out; have c6 := hout.cell; have r16 := cell_of_row _ _ 1 _ _ _ row6; have r26 := cell_of_row _ _ 2 _ _ _ row6; have ZG6 := Lib.hid (ZG.out.below hbW6); have HROWN6 := Lib.hid row6; have HBW6 := Lib.hid hbW6; clear hbW6 row6; clear hout hfr)
        | (at_builtin; (refine wpList_out rfl _ _ rfl rfl _ _ rfl B X v6 (L ++ [(ng : Int)] ++ y.gens) rfl (HO6.out.below ((Below.refl _ _).alloc (Nat.le_refl _) _)) (some ⟨w6.heap.size, 0, none⟩) 1 1 [(ni : Int)] rfl rfl (new_ints1 w6 (ni : Int)) (by omega) (fun u => rfl) (fun u => rfl) ?_); intro v7 w7 hout hfr; have HO7 := Lib.hid hout; have HF7 := Lib.hid ((FrX.of_below HO6.out.ble ((Below.refl w6.heap.size w6).alloc (Nat.le_refl _) (.cells #[.int .i64 (ni : Int)] 3))).trans hfr); have hbW7 := HBW6.out.trans (HF7.out.bel.mono (Nat.le_of_lt hNB)); have row7 := HF7.out.low hNB HROWN6.out; have c7 := hout.cell; have r17 := cell_of_row _ _ 1 _ _ _ row7; have r27 := cell_of_row _ _ 2 _ _ _ row7; have ZG7 := Lib.hid (ZG.out.below hbW7); have HROWN7 := Lib.hid row7; have HBW7 := Lib.hid hbW7; clear hbW7 row7; clear hout hfr))
      have HFB := Lib.hid (HFR.out.trans (HF5.out.trans (HF6.out.trans HF7.out)))
      have hT3 : (L ++ [(ng : Int)] ++ y.gens ++ [(ni : Int)]) ++ (FI 0 ++ []) = TOT := by rw [List.append_nil]; exact HT3.out
      clear HF5 HF6 HF7 HO5 HO6 c5 c6 c0 r1 r2 r15 r16 r25 r26 ZGr ZG5 ZG6 ZG7 HT1 HT2 HT3 HROWN HROWN5 HROWN6 HBW HBW5 HBW6 hl0 hl1 hl2 HOUT HFR
      go_loopg [74, 10, 93, 12] ni (fun gk v1 _ _ _ wx => ∃ (i : Nat) (u : Value) (L : List Int), i ≤ ni ∧ gk = ni - i ∧ v1 = .int .i64 i ∧ OutV wx B X u L ∧ L ++ (FI i ++ []) = TOT ∧ FrX B X W0 wx)
      case atStart => exact ⟨0, _, _, Nat.zero_le _, rfl, rfl, HO7.out, hT3, HFB.out⟩
      case round =>
        clear HO7 hT3 HFB hl3 c7 r17 r27 HROWN7 HBW7
        obtain ⟨i, u, L, j1, j2, rfl, hout, hT, hfr⟩ := hrel
        have J2 := Lib.hid j2
        have HOUT := Lib.hid hout
        have HFR := Lib.hid hfr
        have HT := Lib.hid hT
        have hbW : Below W.heap.size W wr := HB0.out.trans (hfr.bel.mono (Nat.le_of_lt hNB))
        have HBW := Lib.hid hbW
        have hble := hout.ble
        have c0 := hout.cell
        clear j2 hout hfr hT
        by_cases hi : i < ni
        · obtain ⟨x, rfl, _, _⟩ := ZI.out (by rw [← NI.out]; omega)
          obtain ⟨ib, io, rfl, ac, cc, hclW, hcoW⟩ := item_cells ZI.out i (by rw [← NI.out]; exact hi)
          have hcl := hclW.below hbW
          have hsz := HI.out _ (List.getElem_mem (by rw [← NI.out]; exact hi) : y.items[i]'(by rw [← NI.out]; exact hi) ∈ y.items)
          have hT := HT.out
          rw [DI.out i (by rw [← NI.out]; exact hi)] at hT
          obtain ⟨it, hit⟩ : ∃ it, it = y.items[i]'(by rw [← NI.out]; exact hi) := ⟨_, rfl⟩
          rw [← hit] at hcl hcoW hsz hT
          unfold itemI at hT
          obtain ⟨q1, q2⟩ := hsz
          obtain ⟨FC, hFC⟩ : ∃ F : Nat → List Int, F = fun j => ((it.comps.drop j).map compI).flatten := ⟨_, rfl⟩
          have df : ∀ j (h : j < it.comps.length) R, FC j ++ R = compI it.comps[j] ++ (FC (j + 1) ++ R) := fun j h R => by rw [hFC]; exact drop_flat compI it.comps j h R
          have ef : ∀ R, FC it.comps.length ++ R = R := fun R => by rw [hFC]; exact drop_end compI it.comps R
          rw [show (it.comps.map compI).flatten = FC 0 from by rw [hFC]; rfl, List.append_assoc] at hT
          obtain ⟨nc, hnc⟩ : ∃ nc, nc = it.comps.length := ⟨_, rfl⟩
          obtain ⟨kn, hkn⟩ : ∃ kn, kn = it.n := ⟨_, rfl⟩
          obtain ⟨kg, hkg⟩ : ∃ kg, kg = it.gen := ⟨_, rfl⟩
          rw [← hnc] at hcl hT ef q1
          rw [← hkn, ← hkg] at hcl hT
          have e0 := hcl.at 0 (by simp)
          have e1 := hcl.at 1 (by simp)
          have e2 := hcl.at 2 (by simp)
          simp only [List.getElem_cons_zero, List.getElem_cons_succ, Nat.add_zero] at e0 e1 e2
          have hrk := heap_alloc_new wr (.cells #[.int .i64 kn, .int .i64 kg, .slice ac nc cc] 70 (0, 0))
          have hbk : Below wr.heap.size wr (wr.alloc (.cells #[.int .i64 kn, .int .i64 kg, .slice ac nc cc] 70 (0, 0))) := (Below.refl _ _).alloc (Nat.le_refl _) _
          obtain ⟨WA, hWA⟩ : ∃ WA, WA = wr.alloc (.cells #[.int .i64 kn, .int .i64 kg, .slice ac nc cc] 70 (0, 0)) := ⟨_, rfl⟩
          have HT1 := Lib.hid (step_eq hT)
          have hLl := LEN.out _ _ HT.out
          have hL1 := LEN.out _ _ HT1.out
          have HRK := Lib.hid hrk
          have HOA := Lib.hid (HOUT.out.below hbk)
          have cA := (HOUT.out.below hbk).cell
          have HFA0 := Lib.hid (FrX.of_below (X := X) hble hbk)
          have DF := Lib.hid df
          have EF := Lib.hid ef
          have Q2 := Lib.hid q2
          have NC := Lib.hid hnc
          have HCO := Lib.hid hcoW
          have hKX : wr.heap.size ≠ X := by have := HOUT.out.lt; omega
          clear hcl hclW hcoW hit hT hFC df ef hnc hkn hkg hrk hbk hWA WA q2
          go_wp2_with (at_builtin; go_must (refine wpList_out rfl _ _ rfl rfl _ _ rfl B X u L rfl (HOA.out.below ((Below.refl _ _).alloc (Nat.le_refl _) _)) (some ⟨wr.heap.size + 1, 0, none⟩) 3 3 [kn, kg, (nc : Int)] rfl rfl (by have h := new_ints3 (wr.alloc (.cells #[.int .i64 kn, .int .i64 kg, .slice ac nc cc] 70 (0, 0))) kn kg (nc : Int); rw [World.size_alloc] at h; exact h) (by omega) (fun u => rfl) (fun u => rfl) ?_); intro v3 w3 hout hfr; have HO3 := Lib.hid hout; have HF3 := Lib.hid ((FrX.of_below HOA.out.ble ((Below.refl (wr.alloc (.cells #[.int .i64 kn, .int .i64 kg, .slice ac nc cc] 70 (0, 0))).heap.size (wr.alloc (.cells #[.int .i64 kn, .int .i64 kg, .slice ac nc cc] 70 (0, 0)))).alloc (Nat.le_refl _) (.cells #[.int .i64 kn, .int .i64 kg, .int .i64 (nc : Int)] 3))).trans hfr); have rk3 := hfr.far _ _ _ _ (heap_keep HRK.out _) (by decide) hKX; have k32 := cell_of_row _ _ 2 _ _ _ rk3; clear rk3; clear hout hfr)
          have HFB := Lib.hid (HFR.out.trans (HFA0.out.trans HF3.out))
          clear HFA0 HF3 HOA HRK c0 cA e0 e1 e2
          obtain ⟨R1, hR1⟩ : ∃ R1, R1 = FI (i + 1) ++ [] := ⟨_, rfl⟩
          rw [← hR1] at HT1
          have HR1 := Lib.hid hR1
          clear hR1
          go_loopg [93, 12] nc (fun gk v1 _ wx => ∃ (j : Nat) (u : Value) (L : List Int), j ≤ nc ∧ gk = nc - j ∧ v1 = .int .i64 j ∧ OutV wx B X u L ∧ L ++ (FC j ++ R1) = TOT ∧ FrX B X W0 wx)
          case atStart => exact ⟨0, _, _, Nat.zero_le _, rfl, rfl, HO3.out, HT1.out, HFB.out⟩
          case round =>
            clear HO3 HT1 HFB k32
            obtain ⟨j, u, L, l1, l2, rfl, hout, hT, hfr⟩ := hrel
            have J3 := Lib.hid l2
            have HOUT := Lib.hid hout
            have HFR := Lib.hid hfr
            have HT := Lib.hid hT
            have hbW : Below W.heap.size W wr := HB0.out.trans (hfr.bel.mono (Nat.le_of_lt hNB))
            have hble := hout.ble
            have c0 := hout.cell
            have hLl := LEN.out _ _ hT
            clear l2 hout hfr hT
            by_cases hj : j < nc
            · obtain ⟨x, rfl, _, _⟩ := HCO.out (by rw [← NC.out]; omega)
              obtain ⟨cb, co, rfl, av, cv, hclW, hvW⟩ := comp_cells HCO.out j (by rw [← NC.out]; exact hj)
              have hcl := hclW.below hbW
              have hT := HT.out
              rw [DF.out j (by rw [← NC.out]; exact hj)] at hT
              have hsz := Q2.out _ (List.getElem_mem (by rw [← NC.out]; exact hj) : it.comps[j]'(by rw [← NC.out]; exact hj) ∈ it.comps)
              obtain ⟨cm, hcm⟩ : ∃ cm, cm = it.comps[j]'(by rw [← NC.out]; exact hj) := ⟨_, rfl⟩
              rw [← hcm] at hcl hvW hsz hT
              unfold compI at hT
              rw [List.append_assoc] at hT
              obtain ⟨nv, hnv⟩ : ∃ nv, nv = cm.vals.length := ⟨_, rfl⟩
              obtain ⟨kq, hkq⟩ : ∃ kq, kq = cm.kind := ⟨_, rfl⟩
              rw [← hnv] at hcl hsz hT
              rw [← hkq] at hcl hT
              have e0 := hcl.at 0 (by simp)
              have e1 := hcl.at 1 (by simp)
              simp only [List.getElem_cons_zero, List.getElem_cons_succ, Nat.add_zero] at e0 e1
              have hrk := heap_alloc_new wr (.cells #[.int .i64 kq, .slice av nv cv] 59 (0, 0))
              have hbk : Below wr.heap.size wr (wr.alloc (.cells #[.int .i64 kq, .slice av nv cv] 59 (0, 0))) := (Below.refl _ _).alloc (Nat.le_refl _) _
              have HT1 := Lib.hid (step_eq hT)
              have HT2 := Lib.hid (step_eq HT1.out)
              have hL2 := LEN.out _ _ HT2.out
              have HRK := Lib.hid hrk
              have HOA := Lib.hid (HOUT.out.below hbk)
              have cA := (HOUT.out.below hbk).cell
              have HFA0 := Lib.hid (FrX.of_below (X := X) hble hbk)
              have HVW := Lib.hid hvW
              have NV := Lib.hid hnv
              have hKX : wr.heap.size ≠ X := by have := HOUT.out.lt; omega
              rw [List.length_append, ← NV.out] at hL2
              have hL2' : L.length + 2 + nv ≤ TL := by simpa using hL2
              clear hcl hclW hvW hcm hT hnv hkq hrk hbk hL2
              go_wp2_with (first
                | (at_builtin; (refine wpList_out rfl _ _ rfl rfl _ _ rfl B X u L rfl (HOA.out.below ((Below.refl _ _).alloc (Nat.le_refl _) _)) (some ⟨wr.heap.size + 1, 0, none⟩) 2 2 [kq, (nv : Int)] rfl rfl (by have h := new_ints2 (wr.alloc (.cells #[.int .i64 kq, .slice av nv cv] 59 (0, 0))) kq (nv : Int); rw [World.size_alloc] at h; exact h) (by omega) (fun u => rfl) (fun u => rfl) ?_); intro v3 w3 hout hfr; have HO3 := Lib.hid hout; have HF3 := Lib.hid ((FrX.of_below HOA.out.ble ((Below.refl (wr.alloc (.cells #[.int .i64 kq, .slice av nv cv] 59 (0, 0))).heap.size (wr.alloc (.cells #[.int .i64 kq, .slice av nv cv] 59 (0, 0)))).alloc (Nat.le_refl _) (.cells #[.int .i64 kq, .int .i64 (nv : Int)] 3))).trans hfr); have rk3 := hfr.far _ _ _ _ (heap_keep HRK.out _) (by decide) hKX; have k31 := cell_of_row _ _ 1 _ _ _ rk3; have c3 := hout.cell; have HV3 := Lib.hid (HVW.out.below (hbW.trans ((HFA0.out.trans HF3.out).bel.mono (Nat.le_of_lt hNB)))); clear rk3; clear hout hfr)
                | (at_builtin; (refine wpList_out rfl _ _ rfl rfl _ _ rfl B X v3 (L ++ [kq, (nv : Int)]) rfl HO3.out av nv cv cm.vals rfl NV.out.symm HV3.out (by rw [List.length_append]; simp; omega) (fun u => rfl) (fun u => rfl) ?_); intro v4 w4 hout hfr; have HO4 := Lib.hid hout; have HF4 := Lib.hid hfr; clear hout hfr))
              have HFB := Lib.hid (HFR.out.trans (HFA0.out.trans (HF3.out.trans HF4.out)))
              clear HF3 HF4 HFA0 HOA HRK HO3 HV3 c0 cA c3 k31 e0 e1 HT1
              go_roundg (nc - (j + 1))
              case measure => rw [J3.out]; omega
              case rel => exact ⟨j + 1, _, _, hj, rfl, by go_num, HO4.out, HT2.out, HFB.out⟩
            · obtain rfl : nc = j := by omega
              have hT := HT.out
              rw [EF.out, HR1.out] at hT
              have HT := Lib.hid hT
              clear hT
              go_wp2
              go_roundg (ni - (i + 1))
              case measure => rw [J2.out]; omega
              case rel => exact ⟨i + 1, _, _, hi, rfl, by go_num, HOUT.out, HT.out, HFR.out⟩
        · obtain rfl : ni = i := by omega
          have hT := HT.out
          rw [EI.out, List.append_nil] at hT
          have HT := Lib.hid hT
          clear hT
          go_wp2
          go_ret
          obtain ⟨a9, c9, hu, hin⟩ := HOUT.out.ints
          rw [HT.out] at hu hin
          exact ⟨⟨a9, c9, by rw [hu]; rfl, hin⟩, HBW.out⟩
end Go.Proofs.Ytncnbfefciobcaa
end
/- world.Digest. -/
section
namespace Go.Proofs.Ytncnbfefciobcaa
open Go.ChangeShapes Go.WideShapes Go.ChangeAt Go.RowKit Go.Nm Go.Mem
set_option linter.unusedVariables false
set_option maxHeartbeats 4000000 in
theorem world_Digest (y : WorldV) (v : Value) (W : World) (hv : WorldIn W v y) (hfn : FineW y) (hlen : (intsW y).length ≤ 17592186044416) : Calls Try.prog 7 #[v] W fun e w' => e = .returned (.int .u64 (dig (intsW y) : Nat)) ∧ Below W.heap.size W w' := by
  obtain ⟨ak, ck, ag, cg, ai, ci, rfl, q1, q2, q3, q4, q5⟩ := hv
  obtain ⟨nk, hnk⟩ : ∃ n, n = y.kinds.length := ⟨_, rfl⟩
  obtain ⟨ng, hng⟩ : ∃ n, n = y.gens.length := ⟨_, rfl⟩
  obtain ⟨ni, hni⟩ : ∃ n, n = y.items.length := ⟨_, rfl⟩
  have hb0 := (Below.refl W.heap.size W).alloc (Nat.le_refl _) (.cells #[.slice ak nk ck, .slice ag ng cg, .slice ai ni ci] 27)
  have hv' : WorldIn (W.alloc (.cells #[.slice ak nk ck, .slice ag ng cg, .slice ai ni ci] 27)) (.agg #[.slice ak nk ck, .slice ag ng cg, .slice ai ni ci]) y := by
    rw [hnk, hng, hni] at hb0 ⊢
    exact WorldIn.below ⟨ak, ck, ag, cg, ai, ci, rfl, q1, q2, q3, q4, q5⟩ hb0
  have HC := Lib.hid (world_Ints y _ _ hv' hfn)
  have HS := Lib.hid (fun a c w' h => sum_Ints a c (intsW y) hlen w' h)
  have HB0 := Lib.hid hb0
  obtain ⟨L, hL⟩ : ∃ L, L = intsW y := ⟨_, rfl⟩
  rw [← hL] at HC HS ⊢
  clear q1 q2 q3 hv' hb0 hfn hlen hL
  rw [← hnk, ← hng, ← hni]
  clear hnk hng hni q4
  go_enter Try.func7, Try.ntmps7
  go_wp2_with fail
  refine HC.out.mono ?_
  rintro e w1 ⟨⟨a, c, rfl, hi⟩, hb1⟩
  have HB1 := Lib.hid (HB0.out.trans (hb1.mono HB0.out.size))
  have HI := Lib.hid hi
  clear hi hb1
  go_wp2_with fail
  refine (HS.out a c _ HI.out).mono ?_
  rintro e w2 ⟨rfl, hb2⟩
  have HB2 := Lib.hid (HB1.out.trans (hb2.mono HB1.out.size))
  clear hb2
  go_wp2_with fail
  go_ret
  exact ⟨rfl, HB2.out⟩
end Go.Proofs.Ytncnbfefciobcaa
end
/- Bounds of a world's parts out of its bulk. -/
section
namespace Go.Proofs.Ytncnbfefciobcaa
open Go.RowKit Go.ChangeShapes Go.WideShapes Go.Deep Go.Mem
set_option linter.unusedVariables false
theorem sumB_at {α : Type} (f : α → Nat) : ∀ (l : List α) (x : α), x ∈ l → f x ≤ (l.map f).sum
  | y :: l, x, h => by
    rcases List.mem_cons.1 h with rfl | h
    · simp
    · have := sumB_at f l x h; simp only [List.map_cons, List.sum_cons]; omega
theorem sumB_len {α : Type} (f : α → Nat) (h : ∀ x, 1 ≤ f x) : ∀ l : List α, l.length ≤ (l.map f).sum
  | [] => Nat.le_refl _
  | x :: l => by have := sumB_len f h l; have := h x; simp only [List.map_cons, List.sum_cons, List.length_cons]; omega
theorem comps_bound {l : List CompV} {N : Nat} (h : (l.map costComp).sum ≤ N) : l.length ≤ N ∧ ∀ z ∈ l, z.vals.length ≤ N := by
  refine ⟨Nat.le_trans (sumB_len costComp (fun x => by unfold costComp; omega) l) h, fun z hz => ?_⟩
  have := sumB_at costComp l z hz
  unfold costComp at this h
  omega
theorem world_bound {y : WorldV} {N : Nat} (h : costWorld y ≤ N) (hN : N ≤ 1048576) : SmallW y ∧ ∀ k ∈ y.kinds, k.fields.length ≤ 1048576 := by
  unfold costWorld at h
  have h1 := sumB_len costKind (fun x => by unfold costKind; omega) y.kinds
  have h2 := sumB_len costItem (fun x => by unfold costItem; omega) y.items
  refine ⟨⟨by omega, by omega, by omega, fun z hz => ?_⟩, fun k hk => ?_⟩
  · have h3 := sumB_at costItem y.items z hz
    unfold costItem at h3 h
    obtain ⟨a, b⟩ := comps_bound (l := z.comps) (N := N) (by omega)
    exact ⟨by omega, fun c hc => by have := b c hc; omega⟩
  · have h3 := sumB_at costKind y.kinds k hk
    have h4 := sumB_len costField (fun x => by unfold costField; omega) k.fields
    unfold costKind at h3 h
    omega
end Go.Proofs.Ytncnbfefciobcaa
end
/- Drawn regions by facts: a look-up in a map whose run is known; a comparison of structs whose run is known. No function of the program is named here. -/
section
namespace Go.Proofs.Ytncnbfefciobcaa
open Go.ChangeShapes Go.WideShapes Go.ChangeAt Go.RowKit Go.Mem
set_option linter.unusedVariables false
section
variable {P : Program} {ops : Array Oper} {o : Oper} {F : Act} {w : World} {Q : Exit → Act → World → Prop}
theorem rg_binrun (b : BinOp) (t tr : TypeId) (x y : Operand) (hgd : o.guard = none) (ho : o.op = .binOp b t x y tr) (vx vy v : Value) (hx : F.eval x = vx) (hy : F.eval y = vy) (hg : (eqGuard b t x y vx vy).run P w = .ok () w) (hrun : (binOp b t vx vy).run P w = .ok v w) (h : Q .normal (F.put o.dst v) w) : wpList P ops Q [o] F w := by
  refine wpList_plain hgd fun K hK => ?_
  unfold Oper.wp execOp
  simp [ho, hx, hy, hg, hrun, Sem.run_bind, Result.andThen, Oper.upon]
  exact hK _ _ h
end
end Go.Proofs.Ytncnbfefciobcaa
end
/- tourtop.h6begun: by program (gen_h6.py). -/
section
namespace Go.Proofs.Ytncnbfefciobcaa
open Go.ChangeShapes Go.WideShapes Go.ChangeAt Go.RowKit Go.Nm Go.Mem
set_option linter.unusedVariables false
theorem list20h {α : Type} {vs : List α} (h : vs.length = 20) : ∃ x0 x1 x2 x3 x4 x5 x6 x7 x8 x9 x10 x11 x12 x13 x14 x15 x16 x17 x18 x19, vs = [x0, x1, x2, x3, x4, x5, x6, x7, x8, x9, x10, x11, x12, x13, x14, x15, x16, x17, x18, x19] := by
  obtain ⟨x0, t0, rfl, h0⟩ := cons_of h
  obtain ⟨x1, t1, rfl, h1⟩ := cons_of h0
  obtain ⟨x2, t2, rfl, h2⟩ := cons_of h1
  obtain ⟨x3, t3, rfl, h3⟩ := cons_of h2
  obtain ⟨x4, t4, rfl, h4⟩ := cons_of h3
  obtain ⟨x5, t5, rfl, h5⟩ := cons_of h4
  obtain ⟨x6, t6, rfl, h6⟩ := cons_of h5
  obtain ⟨x7, t7, rfl, h7⟩ := cons_of h6
  obtain ⟨x8, t8, rfl, h8⟩ := cons_of h7
  obtain ⟨x9, t9, rfl, h9⟩ := cons_of h8
  obtain ⟨x10, t10, rfl, h10⟩ := cons_of h9
  obtain ⟨x11, t11, rfl, h11⟩ := cons_of h10
  obtain ⟨x12, t12, rfl, h12⟩ := cons_of h11
  obtain ⟨x13, t13, rfl, h13⟩ := cons_of h12
  obtain ⟨x14, t14, rfl, h14⟩ := cons_of h13
  obtain ⟨x15, t15, rfl, h15⟩ := cons_of h14
  obtain ⟨x16, t16, rfl, h16⟩ := cons_of h15
  obtain ⟨x17, t17, rfl, h17⟩ := cons_of h16
  obtain ⟨x18, t18, rfl, h18⟩ := cons_of h17
  obtain ⟨x19, t19, rfl, h19⟩ := cons_of h18
  exact ⟨x0, x1, x2, x3, x4, x5, x6, x7, x8, x9, x10, x11, x12, x13, x14, x15, x16, x17, x18, x19, by rw [List.eq_nil_of_length_eq_zero h19]⟩
def F_h6 (BX BV BY ck2 cg2 ci2 ck cg ci DV DY NW NB : Nat) (ak2 ag2 ai2 ak ag ai : Option Addr) (jq : Nat) (v : Value) (w : World) : Prop :=
  match jq with
  | 0 => v = .int .i64 0
  | 1 => v = .bool true
  | 2 => v = .bool true
  | 3 => v = .agg #[.int .i64 0, .int .i64 0]
  | 4 => v = .agg #[.int .i64 0, .int .i64 0]
  | 5 => v = .bool true
  | 6 => v = .bool true
  | 7 => v = .bool true
  | 8 => v = .agg #[.slice ak2 1 ck2, .slice ag2 1 cg2, .slice ai2 1 ci2]
  | 9 => v = .int .u64 (DV : Int)
  | 10 => v = .agg #[.slice ak 1 ck, .slice ag 0 cg, .slice ai 0 ci]
  | 11 => v = .int .u64 (DY : Int)
  | 12 => v = .bool true
  | 13 => v = .bool true
  | 14 => v = .bool true
  | 15 => v = .int .u64 (NW : Int)
  | 16 => v = .int .u64 (NB : Int)
  | 17 => v = .bool true
  | 18 => v = .bool true
  | 19 => v = .bool true
  | _ => True
theorem F_h6_mono (BX BV BY ck2 cg2 ci2 ck cg ci DV DY NW NB : Nat) (ak2 ag2 ai2 ak ag ai : Option Addr) : Facts (F_h6 BX BV BY ck2 cg2 ci2 ck cg ci DV DY NW NB  ak2 ag2 ai2 ak ag ai ) := ⟨by
  intro jq v w w' h hb
  unfold F_h6 at h ⊢
  split at h
  all_goals first
    | exact h
    | trivial⟩

def k6 : KindV := ⟨⟨#[97]⟩, [⟨⟨#[120]⟩, 4, 0⟩]⟩
theorem k6_ok : kindsE [k6] = 0 := by kernel_rfl
def y6 : WorldV := ⟨[k6], [], []⟩
def l6 : List CompV := [⟨0, [3]⟩]
theorem new6 : newV [k6] = y6 := by unfold newV; rw [if_pos k6_ok]; rfl
theorem spawn6 : spawnE y6 l6 = 0 := by kernel_rfl
def z6 : WorldV := ⟨[k6], [0], [⟨0, 0, [⟨0, [3]⟩]⟩]⟩
theorem z6_of {Z : WorldV} (h : SpawnZ y6 l6 Z) : Z = z6 := by
  obtain ⟨i, hi, _, _, rfl⟩ := h
  have h0 : i = 0 := Nat.le_zero.1 hi
  subst h0
  have e : (⟨y6.kinds, spawnG y6, y6.items.take 0 ++ [spawnI y6 l6] ++ y6.items.drop 0⟩ : WorldV) = z6 := by kernel_rfl
  exact e
theorem fine_y6 : FineW y6 := fine_of (of_decide_eq_true (by kernel_rfl))
theorem fine_z6 : FineW z6 := fine_of (of_decide_eq_true (by kernel_rfl))
theorem flds6 : ∀ k ∈ [k6], k.fields.length ≤ 1048576 := by
  intro k hk
  rw [List.mem_singleton] at hk
  subst hk
  decide
theorem dig6 : (dig (intsW z6) : Int) ≠ (dig (intsW y6) : Int) := bne_iff_ne.1 (show ((dig (intsW z6) : Int) != (dig (intsW y6) : Int)) = true by kernel_rfl)
theorem nil6 : (dig [] : Int) ≠ (bdig [] : Int) := bne_iff_ne.1 (show ((dig [] : Int) != (bdig [] : Int)) = true by kernel_rfl)
theorem kinds6 {w : World} {f k : Nat} (hf : w.heap[f]? = some (.cells #[.string ⟨#[120]⟩, .int .i64 4, .int .i64 0] 50 (0, 0))) (hk : w.heap[k]? = some (.cells #[.string ⟨#[97]⟩, .slice (some ⟨f, 0, none⟩) 1 1] 53 (0, 0))) : SlAt 2 KindAt w (some ⟨k, 0, none⟩) [k6] := fun _ => by
  refine ⟨_, rfl, lt_of_heap hk, fun i hi => ?_⟩
  have hi2 : i < 1 := hi
  obtain rfl : i = 0 := by omega
  refine ⟨cell_of_row _ _ 0 _ _ _ hk, by show (1 : Nat) ≤ _; omega, _, _, cell_of_row _ _ 1 _ _ _ hk, Nat.le_refl _, by omega, fun _ => ⟨_, rfl, lt_of_heap hf, fun j hj => ?_⟩⟩
  have hj2 : j < 1 := hj
  obtain rfl : j = 0 := by omega
  exact ⟨cell_of_row _ _ 0 _ _ _ hf, cell_of_row _ _ 1 _ _ _ hf, cell_of_row _ _ 2 _ _ _ hf, by show (1 : Nat) ≤ _; omega⟩
theorem comps6 {w : World} {v k : Nat} (hv : w.heap[v]? = some (.cells #[.int .i64 3] 3 (0, 0))) (hk : w.heap[k]? = some (.cells #[.int .i64 0, .slice (some ⟨v, 0, none⟩) 1 1] 59 (0, 0))) : SlAt 2 CompAt w (some ⟨k, 0, none⟩) l6 := fun _ => by
  refine ⟨_, rfl, lt_of_heap hk, fun i hi => ?_⟩
  have hi2 : i < 1 := hi
  obtain rfl : i = 0 := by omega
  exact ⟨cell_of_row _ _ 0 _ _ _ hk, _, _, cell_of_row _ _ 1 _ _ _ hk, RowB.ints (k := .i64) (zs := [3]) (show RowB _ _ 3 .i64 [3] from hv)⟩
theorem words6 (w : World) : Calls Try.prog 18 #[.slice none 0 0] w fun e w2 => e = .returned (.int .u64 (dig [] : Nat)) ∧ Below w.heap.size w w2 :=
  (sum_Words none 0 [] (by decide) (fun z hz => by cases hz) w (fun h => absurd h (by simp))).mono fun e w2 h => ⟨h.1, by rw [← h.2]; exact Below.refl _ _⟩
theorem ent_guard (o : BinOp) (x y : Operand) (u v : Array Value) (w : World) : (eqGuard o 55 x y (.agg u) (.agg v)).run Try.prog w = .ok () w := by
  have h : Try.prog.eqGuardType Try.prog.depth 55 = false := by kernel_rfl
  cases o <;> simp [eqGuard, h]
theorem ent_eql (w : World) : (binOp .eql 55 (.agg #[.int .i64 0, .int .i64 0]) (.agg #[.int .i64 0, .int .i64 0])).run Try.prog w = .ok (.bool true) w := by kernel_rfl
set_option maxHeartbeats 4000000 in
set_option maxRecDepth 20000 in
theorem h6_begun (W : World) : Calls Try.prog 4 #[] W fun e w' => e = .returned (.bool true) ∧ Below W.heap.size W w' := by
  have hf := row_first W (.cells #[.string ⟨#[120]⟩, .int .i64 4, .int .i64 0] 50) (.cells #[.string ⟨#[97]⟩, .slice (some ⟨W.heap.size, 0, none⟩) 1 1] 53)
  have hk := row_second W (.cells #[.string ⟨#[120]⟩, .int .i64 4, .int .i64 0] 50) (.cells #[.string ⟨#[97]⟩, .slice (some ⟨W.heap.size, 0, none⟩) 1 1] 53)
  have hb0 := ((Below.refl W.heap.size W).alloc (Nat.le_refl _) (.cells #[.string ⟨#[120]⟩, .int .i64 4, .int .i64 0] 50)).alloc (by simp) (.cells #[.string ⟨#[97]⟩, .slice (some ⟨W.heap.size, 0, none⟩) 1 1] 53)
  have CN := world_New [k6] (some ⟨W.heap.size + 1, 0, none⟩) 1 1 rfl (by decide) (by decide) (by decide) flds6 _ (kinds6 hf hk)
  rw [k6_ok, new6] at CN
  have HCN := Lib.hid CN
  have HB0 := Lib.hid hb0
  clear CN hb0 hf hk
  go_enter Try.func4, Try.ntmps4
  go_wp2_with fail
  refine HCN.out.mono ?_
  rintro e w1 ⟨⟨nv, rfl, hin⟩, hb1⟩
  have HB1 := Lib.hid (bt HB0.out hb1)
  have hin0 := hin
  obtain ⟨ak, ck, ag, cg, ai, ci, rfl, _⟩ := hin
  have e1 : y6.kinds.length = 1 := rfl
  have e2 : y6.gens.length = 0 := rfl
  have e3 : y6.items.length = 0 := rfl
  rw [e1, e2, e3] at hin0 ⊢
  have h1 := allocs3_1 w1 (.cells #[.slice ak 1 ck, .slice ag 0 cg, .slice ai 0 ci] 27) (.cells #[.int .i64 3] 3) (.cells #[.int .i64 0, .slice (some ⟨w1.heap.size + 1, 0, none⟩) 1 1] 59)
  have h2 := allocs3_2 w1 (.cells #[.slice ak 1 ck, .slice ag 0 cg, .slice ai 0 ci] 27) (.cells #[.int .i64 3] 3) (.cells #[.int .i64 0, .slice (some ⟨w1.heap.size + 1, 0, none⟩) 1 1] 59)
  have h3 := allocs3_3 w1 (.cells #[.slice ak 1 ck, .slice ag 0 cg, .slice ai 0 ci] 27) (.cells #[.int .i64 3] 3) (.cells #[.int .i64 0, .slice (some ⟨w1.heap.size + 1, 0, none⟩) 1 1] 59)
  have hbE := allocs3_b w1 (.cells #[.slice ak 1 ck, .slice ag 0 cg, .slice ai 0 ci] 27) (.cells #[.int .i64 3] 3) (.cells #[.int .i64 0, .slice (some ⟨w1.heap.size + 1, 0, none⟩) 1 1] 59)
  obtain ⟨wv, hwv⟩ : ∃ w, w = ((w1.alloc (.cells #[.slice ak 1 ck, .slice ag 0 cg, .slice ai 0 ci] 27)).alloc (.cells #[.int .i64 3] 3)).alloc (.cells #[.int .i64 0, .slice (some ⟨w1.heap.size + 1, 0, none⟩) 1 1] 59) := ⟨_, rfl⟩
  rw [← hwv] at h1 h2 h3 hbE
  obtain ⟨sm, fl⟩ := world_bound (y := y6) (N := 1048576) (of_decide_eq_true (by kernel_rfl)) (Nat.le_refl _)
  have CS := world_Spawn y6 l6 _ (some ⟨w1.heap.size + 1 + 1, 0, none⟩) 1 1 wv (hin0.below hbE) sm fl rfl (by decide) (by decide) (by intro z hz; unfold l6 at hz; rw [List.mem_singleton] at hz; subst hz; decide) (comps6 h2 h3)
  rw [spawn6] at CS
  have HCS := Lib.hid CS
  have HW1 := Lib.hid h1
  have HIN := Lib.hid (hin0.below hbE)
  have HBV := Lib.hid (bt HB1.out hbE)
  have HWV := Lib.hid hwv
  have z0 := cell_of_row _ _ 0 _ _ _ (heap_alloc_new w1 (.cells #[.slice ak 1 ck, .slice ag 0 cg, .slice ai 0 ci] 27))
  have z1 := cell_of_row _ _ 1 _ _ _ (heap_alloc_new w1 (.cells #[.slice ak 1 ck, .slice ag 0 cg, .slice ai 0 ci] 27))
  have z2 := cell_of_row _ _ 2 _ _ _ (heap_alloc_new w1 (.cells #[.slice ak 1 ck, .slice ag 0 cg, .slice ai 0 ci] 27))
  clear hin0 h1 h2 h3 hbE CS HCN HB1 HB0 hb1 e1 e2 e3 sm fl hwv
  go_wp2_with fail
  rw [← HWV.out]
  clear z0 z1 z2 HWV
  refine HCS.out.mono ?_
  rintro e w3 ⟨⟨sv, xn, xg, Z, rfl, hz, _, hz0⟩, hb3⟩
  obtain ⟨g1, g2, hZ⟩ := hz0 rfl
  have hZ6 := z6_of hZ
  subst hZ6
  have gn : xn = 0 := by rw [g1]; kernel_rfl
  have gg : xg = 0 := by rw [g2]; kernel_rfl
  subst gn gg
  have hz1 := hz
  obtain ⟨ak2, ck2, ag2, cg2, ai2, ci2, rfl, _⟩ := hz
  have e1 : z6.kinds.length = 1 := rfl
  have e2 : z6.gens.length = 1 := rfl
  have e3 : z6.items.length = 1 := rfl
  rw [e1, e2, e3] at hz1 ⊢
  have hv := row_first w3 (.cells #[.slice ak2 1 ck2, .slice ag2 1 cg2, .slice ai2 1 ci2] 27) (.cells #[.int .i64 0, .int .i64 0] 55)
  have hx := row_second w3 (.cells #[.slice ak2 1 ck2, .slice ag2 1 cg2, .slice ai2 1 ci2] 27) (.cells #[.int .i64 0, .int .i64 0] 55)
  have hbA := ((Below.refl w3.heap.size w3).alloc (Nat.le_refl _) (.cells #[.slice ak2 1 ck2, .slice ag2 1 cg2, .slice ai2 1 ci2] 27)).alloc (by simp) (.cells #[.int .i64 0, .int .i64 0] 55)
  obtain ⟨wr, hwr⟩ : ∃ w, w = (w3.alloc (.cells #[.slice ak2 1 ck2, .slice ag2 1 cg2, .slice ai2 1 ci2] 27)).alloc (.cells #[.int .i64 0, .int .i64 0] 55) := ⟨_, rfl⟩
  rw [← hwr] at hv hx hbA
  have HV := Lib.hid hv
  have HX := Lib.hid hx
  have HY := Lib.hid (heap_below (heap_below HW1.out hb3) hbA)
  have HB := Lib.hid (bt (bt HBV.out hb3) hbA)
  have HDV := Lib.hid (fun w' (hb : Below wr.heap.size wr w') => world_Digest z6 _ w' ((hz1.below hbA).below hb) fine_z6 (of_decide_eq_true (by kernel_rfl)))
  have HDY := Lib.hid (fun w' (hb : Below wr.heap.size wr w') => world_Digest y6 _ w' (((HIN.out.below hb3).below hbA).below hb) fine_y6 (of_decide_eq_true (by kernel_rfl)))
  have HWR := Lib.hid hwr
  obtain ⟨BY, hBY⟩ : ∃ b, b = w1.heap.size := ⟨_, rfl⟩
  obtain ⟨BV, hBV⟩ : ∃ b, b = w3.heap.size := ⟨_, rfl⟩
  obtain ⟨BX, hBX⟩ : ∃ b, b = w3.heap.size + 1 := ⟨_, rfl⟩
  have HBYN := Lib.hid hBY
  have HBVN := Lib.hid hBV
  have HBXN := Lib.hid hBX
  rw [← hBY] at HY
  rw [← hBV] at HV
  rw [← hBX] at HX
  clear hBY hBV hBX
  obtain ⟨DV, hDV⟩ : ∃ d, d = dig (intsW z6) := ⟨_, rfl⟩
  obtain ⟨DY, hDY⟩ : ∃ d, d = dig (intsW y6) := ⟨_, rfl⟩
  obtain ⟨NW, hNW⟩ : ∃ d, d = dig [] := ⟨_, rfl⟩
  obtain ⟨NB, hNB⟩ : ∃ d, d = bdig [] := ⟨_, rfl⟩
  have C1 := dig6
  have C2 := nil6
  rw [← hDV, ← hDY] at C1
  rw [← hNW, ← hNB] at C2
  have HC1 := Lib.hid C1
  have HC2 := Lib.hid C2
  rw [← hDV] at HDV
  rw [← hDY] at HDY
  have HNW := Lib.hid words6
  have HNB := Lib.hid (fun w' => sum_Bytes none 0 [] (by decide) (by decide) (fun z hz => by cases hz) w' (fun h => absurd h (by simp)))
  rw [← hNW] at HNW
  rw [← hNB] at HNB
  clear hb3 hz0 g1 g2 hZ hz1 e1 e2 e3 hv hx hbA hwr hDV hDY hNW hNB C1 C2 HCS HBV HW1 HIN
  go_wp2_with fail
  rw [← HWR.out, ← HBYN.out, ← HBXN.out, ← HBVN.out]
  refine wp_region_facts_t rfl 20 (by kernel_rfl) (F_h6 BX BV BY ck2 cg2 ci2 ck cg ci DV DY NW NB ak2 ag2 ai2 ak ag ai) (F_h6_mono BX BV BY ck2 cg2 ci2 ck cg ci DV DY NW NB ak2 ag2 ai2 ak ag ai) ?_ ?_
  · refine ⟨?_, ?_, ?_, ?_, ?_, ?_, ?_, ?_, ?_, ?_, ?_, ?_, ?_, ?_, ?_, ?_, ?_, ?_, ?_, ?_, trivial⟩
    · intro vs w' F hb hd hF hl hT
      have e := (hF 5).trans (look_out _ 5 _ _ (by kernel_rfl))
      exact one_move _ rfl (by first | exact Or.inl rfl | exact Or.inr rfl) ⟨_, rfl, Below.refl _ _, e⟩
    · intro vs w' F hb hd hF hl hT
      have e1 := ((hF 25).trans (look_at _ 25 0 _ _ (by kernel_rfl) (by kernel_rfl) hl)).trans (dep_of (Fact := F_h6 BX BV BY ck2 cg2 ci2 ck cg ci DV DY NW NB ak2 ag2 ai2 ak ag ai) hd 0 (by kernel_rfl))
      exact rg_eql _ _ _ _ rfl rfl .i64 (0) (0) true e1 rfl (decide_eq_true (by omega)) ⟨_, rfl, Below.refl _ _, rfl⟩
    · intro vs w' F hb hd hF hl hT
      have e := ((hF 26).trans (look_at _ 26 1 _ _ (by kernel_rfl) (by kernel_rfl) hl)).trans (dep_of (Fact := F_h6 BX BV BY ck2 cg2 ci2 ck cg ci DV DY NW NB ak2 ag2 ai2 ak ag ai) hd 1 (by kernel_rfl))
      exact one_move _ rfl (by first | exact Or.inl rfl | exact Or.inr rfl) ⟨_, rfl, Below.refl _ _, e⟩
    · intro vs w' F hb hd hF hl hT
      have eg := ((hF 27).trans (look_at _ 27 2 _ _ (by kernel_rfl) (by kernel_rfl) hl)).trans (dep_of (Fact := F_h6 BX BV BY ck2 cg2 ci2 ck cg ci DV DY NW NB ak2 ag2 ai2 ak ag ai) hd 2 (by kernel_rfl))
      refine wpList_on rfl (t := 27) (by kernel_rfl) eg ?_
      have e := (hF 4).trans (look_out _ 4 _ _ (by kernel_rfl))
      exact rg_load 55 _ rfl rfl (BX) (0) [.int .i64 0, .int .i64 0] e (CellsK.row (heap_below HX.out hb)) _ Try.underlying55 rfl (by kernel_rfl) ⟨_, rfl, Below.refl _ _, rfl⟩
    · intro vs w' F hb hd hF hl hT
      have eg := ((hF 27).trans (look_at _ 27 2 _ _ (by kernel_rfl) (by kernel_rfl) hl)).trans (dep_of (Fact := F_h6 BX BV BY ck2 cg2 ci2 ck cg ci DV DY NW NB ak2 ag2 ai2 ak ag ai) hd 2 (by kernel_rfl))
      refine wpList_on rfl (t := 27) (by kernel_rfl) eg ?_
      exact one_build _ _ rfl rfl #[] (by simp) (.agg #[.int .i64 0, .int .i64 0]) (fun w => by kernel_rfl) ⟨_, rfl, Below.refl _ _, rfl⟩
    · intro vs w' F hb hd hF hl hT
      have eg := ((hF 27).trans (look_at _ 27 2 _ _ (by kernel_rfl) (by kernel_rfl) hl)).trans (dep_of (Fact := F_h6 BX BV BY ck2 cg2 ci2 ck cg ci DV DY NW NB ak2 ag2 ai2 ak ag ai) hd 2 (by kernel_rfl))
      refine wpList_on rfl (t := 27) (by kernel_rfl) eg ?_
      have e1 := (((hF 28).trans (look_at _ 28 3 _ _ (by kernel_rfl) (by kernel_rfl) hl)).trans (dep_of (Fact := F_h6 BX BV BY ck2 cg2 ci2 ck cg ci DV DY NW NB ak2 ag2 ai2 ak ag ai) hd 3 (by kernel_rfl)))
      have e2 := (((hF 29).trans (look_at _ 29 4 _ _ (by kernel_rfl) (by kernel_rfl) hl)).trans (dep_of (Fact := F_h6 BX BV BY ck2 cg2 ci2 ck cg ci DV DY NW NB ak2 ag2 ai2 ak ag ai) hd 4 (by kernel_rfl)))
      exact rg_binrun .eql 55 _ _ _ rfl rfl (.agg #[.int .i64 0, .int .i64 0]) (.agg #[.int .i64 0, .int .i64 0]) (.bool true) e1 e2 (ent_guard _ _ _ _ _ _) (ent_eql _) ⟨_, rfl, Below.refl _ _, rfl⟩
    · intro vs w' F hb hd hF hl hT
      have ec := ((hF 27).trans (look_at _ 27 2 _ _ (by kernel_rfl) (by kernel_rfl) hl)).trans (dep_of (Fact := F_h6 BX BV BY ck2 cg2 ci2 ck cg ci DV DY NW NB ak2 ag2 ai2 ak ag ai) hd 2 (by kernel_rfl))
      have e := ((hF 30).trans (look_at _ 30 5 _ _ (by kernel_rfl) (by kernel_rfl) hl)).trans (dep_of (Fact := F_h6 BX BV BY ck2 cg2 ci2 ck cg ci DV DY NW NB ak2 ag2 ai2 ak ag ai) hd 5 (by kernel_rfl))
      exact one_pick_t _ _ _ rfl rfl _ ec e ⟨_, rfl, Below.refl _ _, rfl⟩
    · intro vs w' F hb hd hF hl hT
      have e := ((hF 31).trans (look_at _ 31 6 _ _ (by kernel_rfl) (by kernel_rfl) hl)).trans (dep_of (Fact := F_h6 BX BV BY ck2 cg2 ci2 ck cg ci DV DY NW NB ak2 ag2 ai2 ak ag ai) hd 6 (by kernel_rfl))
      exact one_move _ rfl (by first | exact Or.inl rfl | exact Or.inr rfl) ⟨_, rfl, Below.refl _ _, e⟩
    · intro vs w' F hb hd hF hl hT
      have eg := ((hF 32).trans (look_at _ 32 7 _ _ (by kernel_rfl) (by kernel_rfl) hl)).trans (dep_of (Fact := F_h6 BX BV BY ck2 cg2 ci2 ck cg ci DV DY NW NB ak2 ag2 ai2 ak ag ai) hd 7 (by kernel_rfl))
      refine wpList_on rfl (t := 32) (by kernel_rfl) eg ?_
      have e := (hF 3).trans (look_out _ 3 _ _ (by kernel_rfl))
      exact rg_load 27 _ rfl rfl (BV) (0) [.slice ak2 1 ck2, .slice ag2 1 cg2, .slice ai2 1 ci2] e (CellsK.row (heap_below HV.out hb)) _ Try.underlying27 rfl (by kernel_rfl) ⟨_, rfl, Below.refl _ _, rfl⟩
    · intro vs w' F hb hd hF hl hT
      have eg := ((hF 32).trans (look_at _ 32 7 _ _ (by kernel_rfl) (by kernel_rfl) hl)).trans (dep_of (Fact := F_h6 BX BV BY ck2 cg2 ci2 ck cg ci DV DY NW NB ak2 ag2 ai2 ak ag ai) hd 7 (by kernel_rfl))
      refine wpList_on rfl (t := 32) (by kernel_rfl) eg ?_
      have ea0 := ((hF 33).trans (look_at _ 33 8 _ _ (by kernel_rfl) (by kernel_rfl) hl)).trans (dep_of (Fact := F_h6 BX BV BY ck2 cg2 ci2 ck cg ci DV DY NW NB ak2 ag2 ai2 ak ag ai) hd 8 (by kernel_rfl))
      refine one_call _ _ rfl rfl (enters_of Try.func7 (by kernel_rfl) rfl) #[.agg #[.slice ak2 1 ck2, .slice ag2 1 cg2, .slice ai2 1 ci2]] (eval1 ea0) ?_
      refine (HDV.out w' hb).mono ?_
      rintro e2 w2 ⟨rfl, hb2⟩
      exact ⟨_, rfl, _, rfl, hb2, rfl⟩
    · intro vs w' F hb hd hF hl hT
      have eg := ((hF 32).trans (look_at _ 32 7 _ _ (by kernel_rfl) (by kernel_rfl) hl)).trans (dep_of (Fact := F_h6 BX BV BY ck2 cg2 ci2 ck cg ci DV DY NW NB ak2 ag2 ai2 ak ag ai) hd 7 (by kernel_rfl))
      refine wpList_on rfl (t := 32) (by kernel_rfl) eg ?_
      have e := (hF 1).trans (look_out _ 1 _ _ (by kernel_rfl))
      exact rg_load 27 _ rfl rfl (BY) (0) [.slice ak 1 ck, .slice ag 0 cg, .slice ai 0 ci] e (CellsK.row (heap_below HY.out hb)) _ Try.underlying27 rfl (by kernel_rfl) ⟨_, rfl, Below.refl _ _, rfl⟩
    · intro vs w' F hb hd hF hl hT
      have eg := ((hF 32).trans (look_at _ 32 7 _ _ (by kernel_rfl) (by kernel_rfl) hl)).trans (dep_of (Fact := F_h6 BX BV BY ck2 cg2 ci2 ck cg ci DV DY NW NB ak2 ag2 ai2 ak ag ai) hd 7 (by kernel_rfl))
      refine wpList_on rfl (t := 32) (by kernel_rfl) eg ?_
      have ea0 := ((hF 35).trans (look_at _ 35 10 _ _ (by kernel_rfl) (by kernel_rfl) hl)).trans (dep_of (Fact := F_h6 BX BV BY ck2 cg2 ci2 ck cg ci DV DY NW NB ak2 ag2 ai2 ak ag ai) hd 10 (by kernel_rfl))
      refine one_call _ _ rfl rfl (enters_of Try.func7 (by kernel_rfl) rfl) #[.agg #[.slice ak 1 ck, .slice ag 0 cg, .slice ai 0 ci]] (eval1 ea0) ?_
      refine (HDY.out w' hb).mono ?_
      rintro e2 w2 ⟨rfl, hb2⟩
      exact ⟨_, rfl, _, rfl, hb2, rfl⟩
    · intro vs w' F hb hd hF hl hT
      have eg := ((hF 32).trans (look_at _ 32 7 _ _ (by kernel_rfl) (by kernel_rfl) hl)).trans (dep_of (Fact := F_h6 BX BV BY ck2 cg2 ci2 ck cg ci DV DY NW NB ak2 ag2 ai2 ak ag ai) hd 7 (by kernel_rfl))
      refine wpList_on rfl (t := 32) (by kernel_rfl) eg ?_
      have e1 := ((hF 34).trans (look_at _ 34 9 _ _ (by kernel_rfl) (by kernel_rfl) hl)).trans (dep_of (Fact := F_h6 BX BV BY ck2 cg2 ci2 ck cg ci DV DY NW NB ak2 ag2 ai2 ak ag ai) hd 9 (by kernel_rfl))
      have e2 := ((hF 36).trans (look_at _ 36 11 _ _ (by kernel_rfl) (by kernel_rfl) hl)).trans (dep_of (Fact := F_h6 BX BV BY ck2 cg2 ci2 ck cg ci DV DY NW NB ak2 ag2 ai2 ak ag ai) hd 11 (by kernel_rfl))
      exact rg_neq _ _ _ _ rfl rfl .u64 ((DV : Int)) ((DY : Int)) true e1 e2 (decide_eq_true (HC1.out)) ⟨_, rfl, Below.refl _ _, rfl⟩
    · intro vs w' F hb hd hF hl hT
      have ec := ((hF 32).trans (look_at _ 32 7 _ _ (by kernel_rfl) (by kernel_rfl) hl)).trans (dep_of (Fact := F_h6 BX BV BY ck2 cg2 ci2 ck cg ci DV DY NW NB ak2 ag2 ai2 ak ag ai) hd 7 (by kernel_rfl))
      have e := ((hF 37).trans (look_at _ 37 12 _ _ (by kernel_rfl) (by kernel_rfl) hl)).trans (dep_of (Fact := F_h6 BX BV BY ck2 cg2 ci2 ck cg ci DV DY NW NB ak2 ag2 ai2 ak ag ai) hd 12 (by kernel_rfl))
      exact one_pick_t _ _ _ rfl rfl _ ec e ⟨_, rfl, Below.refl _ _, rfl⟩
    · intro vs w' F hb hd hF hl hT
      have e := ((hF 38).trans (look_at _ 38 13 _ _ (by kernel_rfl) (by kernel_rfl) hl)).trans (dep_of (Fact := F_h6 BX BV BY ck2 cg2 ci2 ck cg ci DV DY NW NB ak2 ag2 ai2 ak ag ai) hd 13 (by kernel_rfl))
      exact one_move _ rfl (by first | exact Or.inl rfl | exact Or.inr rfl) ⟨_, rfl, Below.refl _ _, e⟩
    · intro vs w' F hb hd hF hl hT
      have eg := ((hF 39).trans (look_at _ 39 14 _ _ (by kernel_rfl) (by kernel_rfl) hl)).trans (dep_of (Fact := F_h6 BX BV BY ck2 cg2 ci2 ck cg ci DV DY NW NB ak2 ag2 ai2 ak ag ai) hd 14 (by kernel_rfl))
      refine wpList_on rfl (t := 39) (by kernel_rfl) eg ?_
      refine one_call _ _ rfl rfl (enters_of Try.func18 (by kernel_rfl) rfl) #[Value.slice none 0 0] (eval1 rfl) ?_
      refine (HNW.out w').mono ?_
      rintro e2 w2 ⟨rfl, hb2⟩
      exact ⟨_, rfl, _, rfl, hb2, rfl⟩
    · intro vs w' F hb hd hF hl hT
      have eg := ((hF 39).trans (look_at _ 39 14 _ _ (by kernel_rfl) (by kernel_rfl) hl)).trans (dep_of (Fact := F_h6 BX BV BY ck2 cg2 ci2 ck cg ci DV DY NW NB ak2 ag2 ai2 ak ag ai) hd 14 (by kernel_rfl))
      refine wpList_on rfl (t := 39) (by kernel_rfl) eg ?_
      refine one_call _ _ rfl rfl (enters_of Try.func19 (by kernel_rfl) rfl) #[Value.slice none 0 0] (eval1 rfl) ?_
      refine (HNB.out w').mono ?_
      rintro e2 w2 ⟨rfl, hb2⟩
      exact ⟨_, rfl, _, rfl, hb2, rfl⟩
    · intro vs w' F hb hd hF hl hT
      have eg := ((hF 39).trans (look_at _ 39 14 _ _ (by kernel_rfl) (by kernel_rfl) hl)).trans (dep_of (Fact := F_h6 BX BV BY ck2 cg2 ci2 ck cg ci DV DY NW NB ak2 ag2 ai2 ak ag ai) hd 14 (by kernel_rfl))
      refine wpList_on rfl (t := 39) (by kernel_rfl) eg ?_
      have e1 := ((hF 40).trans (look_at _ 40 15 _ _ (by kernel_rfl) (by kernel_rfl) hl)).trans (dep_of (Fact := F_h6 BX BV BY ck2 cg2 ci2 ck cg ci DV DY NW NB ak2 ag2 ai2 ak ag ai) hd 15 (by kernel_rfl))
      have e2 := ((hF 41).trans (look_at _ 41 16 _ _ (by kernel_rfl) (by kernel_rfl) hl)).trans (dep_of (Fact := F_h6 BX BV BY ck2 cg2 ci2 ck cg ci DV DY NW NB ak2 ag2 ai2 ak ag ai) hd 16 (by kernel_rfl))
      exact rg_neq _ _ _ _ rfl rfl .u64 ((NW : Int)) ((NB : Int)) true e1 e2 (decide_eq_true (HC2.out)) ⟨_, rfl, Below.refl _ _, rfl⟩
    · intro vs w' F hb hd hF hl hT
      have ec := ((hF 39).trans (look_at _ 39 14 _ _ (by kernel_rfl) (by kernel_rfl) hl)).trans (dep_of (Fact := F_h6 BX BV BY ck2 cg2 ci2 ck cg ci DV DY NW NB ak2 ag2 ai2 ak ag ai) hd 14 (by kernel_rfl))
      have e := ((hF 42).trans (look_at _ 42 17 _ _ (by kernel_rfl) (by kernel_rfl) hl)).trans (dep_of (Fact := F_h6 BX BV BY ck2 cg2 ci2 ck cg ci DV DY NW NB ak2 ag2 ai2 ak ag ai) hd 17 (by kernel_rfl))
      exact one_pick_t _ _ _ rfl rfl _ ec e ⟨_, rfl, Below.refl _ _, rfl⟩
    · intro vs w' F hb hd hF hl hT
      have e := ((hF 43).trans (look_at _ 43 18 _ _ (by kernel_rfl) (by kernel_rfl) hl)).trans (dep_of (Fact := F_h6 BX BV BY ck2 cg2 ci2 ck cg ci DV DY NW NB ak2 ag2 ai2 ak ag ai) hd 18 (by kernel_rfl))
      exact one_move _ rfl (by first | exact Or.inl rfl | exact Or.inr rfl) ⟨_, rfl, Below.refl _ _, e⟩
  · intro vs8 W8 hl hb hI
    have i19 : vs8.getD 19 undef = .bool true := hI 19 (by omega)
    obtain ⟨x0, x1, x2, x3, x4, x5, x6, x7, x8, x9, x10, x11, x12, x13, x14, x15, x16, x17, x18, x19, hvs⟩ := list20h hl
    subst hvs
    replace i19 : x19 = .bool true := i19
    subst i19
    have HB9 := Lib.hid hb
    clear hI hl hb
    simp only [fillAll, Act.put, List.setIfInBounds_toArray, List.set_cons_succ, List.set_cons_zero]
    show wpList _ _ _ [] _ _
    go_wp2
    go_ret
    exact ⟨rfl, bt HB.out HB9.out⟩
end Go.Proofs.Ytncnbfefciobcaa
end
