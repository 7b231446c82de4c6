/- Lemmas for the law SystemChecks: SystUses, RefOpA. No conditions. -/
import Derived.Test.YtijeninfmjhbnaaDoorM12
import Derived.Test.YtijeninfmjhbnaaDoorM13
import Derived.Deep.DeepCutAuto
import Derived.Deep.CutRange
/- tourref3.uses. -/
section
namespace Go.Proofs.YtijeninfmjhbnaaDoor
open Go.ChangeShapes Go.WideShapes Go.ChangeAt Go.RowKit Go.Nm Go.Mem
set_option linter.unusedVariables false
theorem results_t3 {P : Program} {fn : Func} {a b c : Tmp} (h : fn.results = #[.tmp a, .tmp b, .tmp c]) (tmps : Array Value) (w : World) :
    (results fn tmps).run P w = .ok (.tuple #[tmps.getD a undef, tmps.getD b undef, tmps.getD c undef]) w := by
  simp [results, h]
theorem ref_uses (d : Int) (h0 : ¬ (d < 0 ∨ 12 < d)) (w : World) : Calls Tryd.prog 56 #[.int .i64 d] w fun e w' => e = .returned (.tuple #[.bool (setsB d), .bool (chB d), .bool (twoB d)]) ∧ w = w' := by
  rcases (show d = 0 ∨ d = 1 ∨ d = 2 ∨ d = 3 ∨ d = 4 ∨ d = 5 ∨ d = 6 ∨ d = 7 ∨ d = 8 ∨ d = 9 ∨ d = 10 ∨ d = 11 ∨ d = 12 by omega) with rfl | rfl | rfl | rfl | rfl | rfl | rfl | rfl | rfl | rfl | rfl | rfl | rfl <;>
    (clear h0
     go_enter Tryd.func56, Tryd.ntmps56
     go_wp2
     refine bodyPost_ret (results_t3 rfl _ _) rfl ?_
     exact ⟨rfl, rfl⟩)
end Go.Proofs.YtijeninfmjhbnaaDoor
end
/- tourref3.opError, for operations with twoB = false, setsB = true, chB = false. -/
section
namespace Go.Proofs.YtijeninfmjhbnaaDoor
open Go.ChangeShapes Go.WideShapes Go.ChangeAt Go.RowKit Go.Nm Go.Mem
set_option linter.unusedVariables false
set_option maxHeartbeats 16000000 in
set_option maxRecDepth 100000 in
theorem ref_op_A (ks : List KindV) (ka : Option Addr) (n kc : Nat) (hn : ks.length = n) (h1 : n ≤ 1048576) (M m : Nat) (H : Int → Bool) (rs ws : List Int) (hH2 : ∀ x : Int, 0 ≤ x → x < n → H (200 + x) = decide (x ∈ rs)) (hH3 : ∀ x : Int, 0 ≤ x → x < n → H (300 + x) = decide (x ∈ ws)) (o : OpV) (e1 : twoB o.do_ = false) (e2 : setsB o.do_ = true) (e3 : chB o.do_ = false) (e4 : ¬ (o.do_ < 0 ∨ 12 < o.do_)) (W : World) (hz : SlAt 2 KindAt W ka ks) (hM : HasM W M m H) :
    Calls Tryd.prog 29 #[.slice ka n kc, .map (some M), opA o] W fun e w' => e = .returned (.int .i64 (opE ks rs ws o)) ∧ Below W.heap.size W w' := by
  have HK1 := Lib.hid e1
  have HK2 := Lib.hid e2
  have HK3 := Lib.hid e3
  have HK4 := Lib.hid e4
  clear e1 e2 e3 e4
  obtain ⟨R, hR⟩ : ∃ R, R = opE ks rs ws o := ⟨_, rfl⟩
  rw [← hR]
  unfold opE at hR
  have hb0 := al3_b W (.cells #[.slice ka n kc] 22) (.cells #[.int .i64 o.do_, .int .i64 o.tk, .int .i64 o.tf, .bool o.a.has, .int .i64 o.a.n, .int .i64 o.a.rk, .int .i64 o.a.rf, .bool o.b.has, .int .i64 o.b.n, .int .i64 o.b.rk, .int .i64 o.b.rf] 57) (.cells #[.bool o.a.has, .int .i64 o.a.n, .int .i64 o.a.rk, .int .i64 o.a.rf, .bool o.b.has, .int .i64 o.b.n, .int .i64 o.b.rk, .int .i64 o.b.rf] 55)
  have hb02 := ((Below.refl W.heap.size W).alloc (Nat.le_refl _) (.cells #[.slice ka n kc] 22)).alloc (by simp) (.cells #[.int .i64 o.do_, .int .i64 o.tk, .int .i64 o.tf, .bool o.a.has, .int .i64 o.a.n, .int .i64 o.a.rk, .int .i64 o.a.rf, .bool o.b.has, .int .i64 o.b.n, .int .i64 o.b.rk, .int .i64 o.b.rf] 57)
  have hs := al3_1 W (.cells #[.slice ka n kc] 22) (.cells #[.int .i64 o.do_, .int .i64 o.tk, .int .i64 o.tf, .bool o.a.has, .int .i64 o.a.n, .int .i64 o.a.rk, .int .i64 o.a.rf, .bool o.b.has, .int .i64 o.b.n, .int .i64 o.b.rk, .int .i64 o.b.rf] 57) (.cells #[.bool o.a.has, .int .i64 o.a.n, .int .i64 o.a.rk, .int .i64 o.a.rf, .bool o.b.has, .int .i64 o.b.n, .int .i64 o.b.rk, .int .i64 o.b.rf] 55)
  have ho := al3_2 W (.cells #[.slice ka n kc] 22) (.cells #[.int .i64 o.do_, .int .i64 o.tk, .int .i64 o.tf, .bool o.a.has, .int .i64 o.a.n, .int .i64 o.a.rk, .int .i64 o.a.rf, .bool o.b.has, .int .i64 o.b.n, .int .i64 o.b.rk, .int .i64 o.b.rf] 57) (.cells #[.bool o.a.has, .int .i64 o.a.n, .int .i64 o.a.rk, .int .i64 o.a.rf, .bool o.b.has, .int .i64 o.b.n, .int .i64 o.b.rk, .int .i64 o.b.rf] 55)
  have hl := al3_3 W (.cells #[.slice ka n kc] 22) (.cells #[.int .i64 o.do_, .int .i64 o.tk, .int .i64 o.tf, .bool o.a.has, .int .i64 o.a.n, .int .i64 o.a.rk, .int .i64 o.a.rf, .bool o.b.has, .int .i64 o.b.n, .int .i64 o.b.rk, .int .i64 o.b.rf] 57) (.cells #[.bool o.a.has, .int .i64 o.a.n, .int .i64 o.a.rk, .int .i64 o.a.rf, .bool o.b.has, .int .i64 o.b.n, .int .i64 o.b.rk, .int .i64 o.b.rf] 55)
  have HB00 := Lib.hid hb02
  have HN := Lib.hid hn
  have H1 := Lib.hid h1
  have HZ := Lib.hid hz
  have HH2 := Lib.hid hH2
  have HH3 := Lib.hid hH3
  have HM := Lib.hid hM
  have HR := Lib.hid hR
  obtain ⟨wl, hwl⟩ : ∃ w, w = ((W.alloc (.cells #[.slice ka n kc] 22)).alloc (.cells #[.int .i64 o.do_, .int .i64 o.tk, .int .i64 o.tf, .bool o.a.has, .int .i64 o.a.n, .int .i64 o.a.rk, .int .i64 o.a.rf, .bool o.b.has, .int .i64 o.b.n, .int .i64 o.b.rk, .int .i64 o.b.rf] 57)).alloc (.cells #[.bool o.a.has, .int .i64 o.a.n, .int .i64 o.a.rk, .int .i64 o.a.rf, .bool o.b.has, .int .i64 o.b.n, .int .i64 o.b.rk, .int .i64 o.b.rf] 55) := ⟨_, rfl⟩
  rw [← hwl] at hb0 hs ho hl
  have HB0 := Lib.hid hb0
  have HS := Lib.hid hs
  have HO := Lib.hid ho
  have HL := Lib.hid hl
  have HWW := Lib.hid hwl
  clear hb0 hb02 hs ho hl hn h1 hz hH2 hH3 hM hR hwl HB00
  go_enter Tryd.func29, Tryd.ntmps29
  have hR1 := HR.out
  rw [if_neg HK4.out] at hR1
  unfold op1 at hR1
  have HF1 := Lib.hid (show ∀ i, i < 2 → a1B ks (argOf o i) = true → R = 1 from fun i hi h => by rw [hR1, if_pos (argOf_any (p := a1B ks) hi h)])
  have HG1 := Lib.hid (show (∀ j, j < 2 → a1B ks (argOf o j) = false) → R = op2 ks rs ws o from fun h => by rw [hR1, if_neg (argOf_none (p := a1B ks) h)])
  have hd0' : ¬ o.do_ < 0 := fun h => HK4.out (Or.inl h)
  have hd1' : ¬ 12 < o.do_ := fun h => HK4.out (Or.inr h)
  have cU := fun w => ref_uses o.do_ HK4.out w
  rw [HK1.out, HK2.out, HK3.out] at cU
  have CU := Lib.hid cU
  clear hR1 HR cU
  go_wp2_with fail
  refine (CU.out _).mono ?_
  rintro e _ ⟨rfl, rfl⟩
  go_wp2_with fail
  rw [← HWW.out]
  clear hd0' hd1' HWW
  go_loopg [13, 42] 2 (fun gk v8 vi wx => ∃ i : Nat, i ≤ 2 ∧ gk = 2 - i ∧ vi = .int .i64 i ∧ Hid (∀ j, j < i → a1B ks (argOf o j) = false) ∧ Hid (Below wl.heap.size wl wx))
  case atStart => exact ⟨0, by omega, rfl, rfl, Lib.hid (fun j hj => by omega), Lib.hid (Below.refl _ _)⟩
  case round =>
    obtain ⟨i, hi, g2, rfl, HPREV, HB⟩ := hrel
    have G2 := Lib.hid g2
    clear g2
    by_cases hlt : i < 2
    · obtain ⟨q0, q1, q2, q3⟩ := args_cells (heap_below HL.out HB.out) i hlt
      obtain ⟨y, hy⟩ : ∃ y, y = argOf o i := ⟨_, rfl⟩
      rw [← hy] at q0 q1 q2 q3
      have HY := Lib.hid hy
      obtain ⟨yh, yn, yk, yf⟩ := y
      simp only at q0 q1 q2 q3
      have hbA := (Below.refl wr.heap.size wr).alloc (Nat.le_refl _) (.cells #[.bool yh, .int .i64 yn, .int .i64 yk, .int .i64 yf] 55)
      have HBA := Lib.hid (bt HB.out hbA)
      have HF := Lib.hid (show a1B ks ⟨yh, yn, yk, yf⟩ = true → R = 1 from fun h => HF1.out i hlt (by rw [← hy]; exact h))
      have HGO := Lib.hid (show a1B ks ⟨yh, yn, yk, yf⟩ = false → ∀ j, j < i + 1 → a1B ks (argOf o j) = false from fun h j hj => by
        by_cases hji : j < i
        · exact HPREV.out j hji
        · obtain rfl : j = i := by omega
          rw [← hy]; exact h)
      have HLT := Lib.hid (show ∃ k, i + 1 + k = 2 from ⟨2 - (i + 1), by omega⟩)
      have CF := ref_there ks ka n kc W.heap.size yk yf HN.out (by have := H1.out; omega) _ (cell_of_row _ _ 0 _ _ _ (heap_below HS.out HBA.out)) (HZ.out.below KindAt.abides (bt HB0.out HBA.out))
      have HCF := Lib.hid CF
      clear hy hbA CF
      cases yh with
      | true =>
        cases hB : refOk ks yk yf with
        | true =>
          have HN2 := Lib.hid (HGO.out (by unfold a1B; simp only [if_true]; rw [hB]; rfl))
          rw [hB] at HCF
          clear hB HGO HF
          go_wp2_with fail
          refine HCF.out.mono ?_
          rintro e w9 ⟨rfl, hb9⟩
          have HB9 := Lib.hid (bt HBA.out hb9)
          have b0 := cell_of_row _ _ 0 _ _ _ (heap_below (heap_alloc_new wr (.cells #[.bool true, .int .i64 yn, .int .i64 yk, .int .i64 yf] 55)) hb9)
          clear hb9 HCF HBA q0 q1 q2 q3
          go_wp2_with fail
          clear b0
          go_roundg (2 - (i + 1))
          case measure => rw [G2.out]; obtain ⟨k, hk⟩ := HLT.out; omega
          case rel => obtain ⟨k, hk⟩ := HLT.out; exact ⟨i + 1, by omega, rfl, by go_num, HN2, HB9⟩
        | false =>
          have HE := Lib.hid (HF.out (by unfold a1B; simp only [if_true]; rw [hB]; rfl))
          rw [hB] at HCF
          clear hB HGO HF
          go_wp2_with fail
          refine HCF.out.mono ?_
          rintro e w9 ⟨rfl, hb9⟩
          have HB9 := Lib.hid (bt HBA.out hb9)
          clear hb9 HCF HBA q0 q1 q2 q3
          go_wp2_with fail
          go_ret
          exact ⟨by rw [HE.out]; rfl, bt HB0.out HB9.out⟩
      | false =>
        by_cases hlo : yn < -1099511627776
        · have HE := Lib.hid (HF.out (by unfold a1B; simp only [Bool.false_eq_true, if_false]; rw [decide_eq_true hlo]; rfl))
          clear HGO HF HCF
          go_wp2_with fail
          go_ret
          exact ⟨by rw [HE.out]; rfl, bt HB0.out HBA.out⟩
        · by_cases hhi : 1099511627776 < yn
          · have HE := Lib.hid (HF.out (by unfold a1B; simp only [Bool.false_eq_true, if_false]; rw [decide_eq_true hhi]; simp))
            clear HGO HF HCF
            go_wp2_with fail
            go_ret
            exact ⟨by rw [HE.out]; rfl, bt HB0.out HBA.out⟩
          · have HN2 := Lib.hid (HGO.out (by unfold a1B; simp only [Bool.false_eq_true, if_false]; rw [decide_eq_false hlo, decide_eq_false hhi]; rfl))
            clear HGO HF HCF
            go_wp2_with fail
            go_roundg (2 - (i + 1))
            case measure => rw [G2.out]; obtain ⟨k, hk⟩ := HLT.out; omega
            case rel => obtain ⟨k, hk⟩ := HLT.out; exact ⟨i + 1, by omega, rfl, by go_num, HN2, HBA⟩
    · obtain rfl : i = 2 := by omega
      have HR2 := Lib.hid (HG1.out HPREV.out)
      have HA1 := Lib.hid (show ∀ j, j < 2 → a1B ks (argOf o j) = false from HPREV.out)
      clear HG1 HF1 HPREV G2
      have hbz := (Below.refl wr.heap.size wr).alloc (Nat.le_refl _) (.cells #[.bool false, .int .i64 0, .int .i64 0, .int .i64 0] 55)
      have hz9 := heap_alloc_new wr (.cells #[.bool false, .int .i64 0, .int .i64 0, .int .i64 0] 55)
      obtain ⟨wm, hwm⟩ : ∃ w, w = wr.alloc (.cells #[.bool false, .int .i64 0, .int .i64 0, .int .i64 0] 55) := ⟨_, rfl⟩
      rw [← hwm] at hbz hz9
      obtain ⟨z9, hz9e⟩ : ∃ z, z = wr.heap.size := ⟨_, rfl⟩
      rw [← hz9e] at hz9
      have HBM := Lib.hid (bt HB.out hbz)
      have HZ9 := Lib.hid hz9
      have HWM := Lib.hid hwm
      have HZE := Lib.hid hz9e
      clear hbz hz9 hwm hz9e HB
      go_wp2_with fail
      rw [← HWM.out, ← HZE.out]
      clear HWM HZE
      have hR2 := HR2.out
      unfold op2 at hR2
      have HF2 := Lib.hid (show ∀ i, i < 2 → a2B (argOf o i) = true → R = 3 from fun i hi h => by rw [hR2, if_pos (argOf_any (p := a2B) hi h)])
      have HG2 := Lib.hid (show (∀ j, j < 2 → a2B (argOf o j) = false) → R = op3 ks rs ws o from fun h => by rw [hR2, if_neg (argOf_none (p := a2B) h)])
      clear hR2 HR2
      go_loopg [16, 72] 2 (fun gk v8 vi wx => ∃ i : Nat, i ≤ 2 ∧ gk = 2 - i ∧ vi = .int .i64 i ∧ Hid (∀ j, j < i → a2B (argOf o j) = false) ∧ Hid (Below wm.heap.size wm wx))
      case atStart => exact ⟨0, by omega, rfl, rfl, Lib.hid (fun j hj => by omega), Lib.hid (Below.refl _ _)⟩
      case round =>
        obtain ⟨i, hi, g2, rfl, HPREV, HB⟩ := hrel
        have G2 := Lib.hid g2
        clear g2
        by_cases hlt : i < 2
        · obtain ⟨q0, q1, q2, q3⟩ := args_cells (heap_below HL.out (bt HBM.out HB.out)) i hlt
          obtain ⟨y, hy⟩ : ∃ y, y = argOf o i := ⟨_, rfl⟩
          rw [← hy] at q0 q1 q2 q3
          obtain ⟨yh, yn, yk, yf⟩ := y
          simp only at q0 q1 q2 q3
          have hbA := (Below.refl wr.heap.size wr).alloc (Nat.le_refl _) (.cells #[.bool yh, .int .i64 yn, .int .i64 yk, .int .i64 yf] 55)
          have HBA := Lib.hid (bt HB.out hbA)
          have z0 := cell_of_row _ _ 2 _ _ _ (heap_below HZ9.out HBA.out)
          have z1 := cell_of_row _ _ 3 _ _ _ (heap_below HZ9.out HBA.out)
          have HF := Lib.hid (show a2B ⟨yh, yn, yk, yf⟩ = true → R = 3 from fun h => HF2.out i hlt (by rw [← hy]; exact h))
          have HGO := Lib.hid (show a2B ⟨yh, yn, yk, yf⟩ = false → ∀ j, j < i + 1 → a2B (argOf o j) = false from fun h j hj => by
            by_cases hji : j < i
            · exact HPREV.out j hji
            · obtain rfl : j = i := by omega
              rw [← hy]; exact h)
          have HLT := Lib.hid (show ∃ k, i + 1 + k = 2 from ⟨2 - (i + 1), by omega⟩)
          clear hy hbA
          cases yh with
          | true =>
            by_cases hn0 : yn = 0
            · have HN2 := Lib.hid (HGO.out (by unfold a2B; simp only [if_true]; rw [decide_eq_false (by simpa using hn0)]))
              have t1 : (yn != 0) = false := by rw [hn0]; rfl
              clear HGO HF hn0
              go_wp2_with fail
              go_roundg (2 - (i + 1))
              case measure => rw [G2.out]; obtain ⟨k, hk⟩ := HLT.out; omega
              case rel => obtain ⟨k, hk⟩ := HLT.out; exact ⟨i + 1, by omega, rfl, by go_num, HN2, HBA⟩
            · have HE := Lib.hid (HF.out (by unfold a2B; simp only [if_true]; rw [decide_eq_true hn0]))
              have t1 : (yn != 0) = true := by rw [bne_iff_ne]; exact hn0
              clear HGO HF hn0
              go_wp2_with fail
              go_ret
              exact ⟨by rw [HE.out]; rfl, bt (bt HB0.out HBM.out) HBA.out⟩
          | false =>
            by_cases hk0 : yk = 0
            · by_cases hf0 : yf = 0
              · have he := eqRef yk yf 0 0
                have HN2 := Lib.hid (HGO.out (by unfold a2B; simp only [Bool.false_eq_true, if_false]; rw [decide_eq_true hk0, decide_eq_true hf0]; rfl))
                subst hk0 hf0
                clear HGO HF
                go_wp2_with fail
                go_roundg (2 - (i + 1))
                case measure => rw [G2.out]; obtain ⟨k, hk⟩ := HLT.out; omega
                case rel => obtain ⟨k, hk⟩ := HLT.out; exact ⟨i + 1, by omega, rfl, by go_num, HN2, HBA⟩
              · have HE := Lib.hid (HF.out (by unfold a2B; simp only [Bool.false_eq_true, if_false]; rw [decide_eq_false hf0]; simp))
                have he := fun w => eqRef_ne (a := yk) (b := yf) (c := 0) (d := 0) (fun h => hf0 h.2) w
                clear HGO HF hk0 hf0
                go_wp2_with fail
                go_ret
                exact ⟨by rw [HE.out]; rfl, bt (bt HB0.out HBM.out) HBA.out⟩
            · have HE := Lib.hid (HF.out (by unfold a2B; simp only [Bool.false_eq_true, if_false]; rw [decide_eq_false hk0]; simp))
              have he := fun w => eqRef_ne (a := yk) (b := yf) (c := 0) (d := 0) (fun h => hk0 h.1) w
              clear HGO HF hk0
              go_wp2_with fail
              go_ret
              exact ⟨by rw [HE.out]; rfl, bt (bt HB0.out HBM.out) HBA.out⟩
        · obtain rfl : i = 2 := by omega
          have HR3 := Lib.hid (HG2.out HPREV.out)
          clear HG2 HF2 HPREV G2
          have HBW := Lib.hid (bt HBM.out HB.out)
          have ho := heap_below HO.out HBW.out
          have hs := heap_below HS.out HBW.out
          have hz := heap_below HZ9.out HB.out
          obtain ⟨d, hd⟩ : ∃ d, d = o.do_ := ⟨_, rfl⟩
          rw [← hd] at ho
          have HDD := Lib.hid hd
          have k0 := cell_of_row _ _ 0 _ _ _ ho
          have k1 := cell_of_row _ _ 1 _ _ _ ho
          have k2 := cell_of_row _ _ 2 _ _ _ ho
          have k3 := cell_of_row _ _ 3 _ _ _ ho
          have k4 := cell_of_row _ _ 4 _ _ _ ho
          have k5 := cell_of_row _ _ 5 _ _ _ ho
          have k6 := cell_of_row _ _ 6 _ _ _ ho
          have k7 := cell_of_row _ _ 7 _ _ _ ho
          have k8 := cell_of_row _ _ 8 _ _ _ ho
          have k9 := cell_of_row _ _ 9 _ _ _ ho
          have k10 := cell_of_row _ _ 10 _ _ _ ho
          have z0 := cell_of_row _ _ 0 _ _ _ hz
          have z1 := cell_of_row _ _ 1 _ _ _ hz
          have HOR := Lib.hid ho
          have HSR := Lib.hid hs
          have z2 := cell_of_row _ _ 2 _ _ _ hz
          have z3 := cell_of_row _ _ 3 _ _ _ hz
          clear ho hs hz hd
          have hR3 := HR3.out
          unfold op3 at hR3
          obtain ⟨C3, hC3⟩ : ∃ c, c = bad3 o := ⟨_, rfl⟩
          rw [← hC3] at hR3
          have HR3b := Lib.hid hR3
          unfold bad3 at hC3
          rw [HK1.out, HK2.out, HK3.out] at hC3
          obtain ⟨ZB, hZB⟩ : ∃ b, b = zeroB o.b := ⟨_, rfl⟩
          obtain ⟨ZR, hZR⟩ : ∃ b, b = (decide (o.tk = 0) && decide (o.tf = 0)) := ⟨_, rfl⟩
          obtain ⟨TF, hTF⟩ : ∃ b, b = decide (o.tf ≠ 0) := ⟨_, rfl⟩
          rw [← hZB, ← hZR, ← hTF] at hC3
          have HC3 := Lib.hid hC3
          have he1 := fun w => eqArgZ o.b w
          have he2 := fun w => eqRefZ o.tk o.tf w
          rw [← hZB] at he1
          rw [← hZR] at he2
          have htf : (o.tf != 0) = TF := by
            rw [hTF]
            by_cases h : o.tf = 0
            · rw [h]; rfl
            · rw [decide_eq_true h, bne_iff_ne]; exact h
          clear hR3 hC3 hZB hZR hTF HR3
          go_upto_region 21 with fail
          go_cut [127] (fun v wx => v = .bool C3 ∧ wx = wr)
          case first =>
            clear HR3b
            cases ZB <;> (go_wp2_with fail; go_meet; exact ⟨by rw [HC3.out]; simp, rfl⟩)
          case rest =>
            obtain ⟨rfl, hq⟩ := hcut
            rw [hq]
            clear hq he1 he2 htf HC3
            cases C3 with
            | true =>
              have HE := Lib.hid (show R = 3 by rw [HR3b.out, if_pos rfl])
              clear HR3b
              go_wp2_with fail
              go_ret
              exact ⟨by rw [HE.out]; rfl, bt HB0.out HBW.out⟩
            | false =>
              have hR4 := HR3b.out
              rw [if_neg (by decide)] at hR4
              unfold op4 at hR4
              obtain ⟨C4, hC4⟩ : ∃ c, c = bad4 ks o := ⟨_, rfl⟩
              rw [← hC4] at hR4
              have HR4 := Lib.hid hR4
              unfold bad4 at hC4
              rw [HK2.out, HK3.out, HN.out] at hC4
              obtain ⟨RO, hRO⟩ : ∃ b, b = refOk ks o.tk o.tf := ⟨_, rfl⟩
              rw [← hRO] at hC4
              have HC4 := Lib.hid hC4
              have HC4k := Lib.hid hC4
              have HRO := Lib.hid hRO
              have s0 := cell_of_row _ _ 0 _ _ _ HSR.out
              have cF := ref_there ks ka n kc W.heap.size o.tk o.tf HN.out (by have := H1.out; omega) wr s0 (HZ.out.below KindAt.abides (bt HB0.out HBW.out))
              rw [← hRO] at cF
              have CF := Lib.hid cF
              clear hR4 hC4 hRO cF HR3b
              go_upto_region 23 with fail
              go_cut [152] (fun v wx => v = .bool C4 ∧ Hid (Below wr.heap.size wr wx))
              case first =>
                clear HR4 HDD HC4k HRO HA1
                cases RO <;>
                  (go_wp2_with fail
                   refine CF.out.mono ?_
                   rintro e w9 ⟨rfl, hb9⟩
                   have HB9 := Lib.hid hb9
                   clear hb9 CF
                   go_wp2_with fail
                   go_meet
                   exact ⟨by rw [HC4.out]; rfl, HB9⟩)
              case rest =>
                obtain ⟨rfl, HBN⟩ := hcut
                clear CF HC4 k0 k1 k2 k3 k4 k5 k6 k7 k8 k9 k10 z0 z1 z2 z3 s0
                cases C4 with
                | true =>
                  have HE := Lib.hid (show R = 1 by rw [HR4.out, if_pos rfl])
                  clear HR4 HC4k
                  go_wp2_with fail
                  go_ret
                  exact ⟨by rw [HE.out]; rfl, bt (bt HB0.out HBW.out) HBN.out⟩
                | false =>
                  have hR5 := HR4.out
                  rw [if_neg (by decide)] at hR5
                  unfold op5 at hR5
                  obtain ⟨TW, hTW⟩ : ∃ b, b = decide (o.tk ∈ ws) := ⟨_, rfl⟩
                  obtain ⟨C5, hC5⟩ : ∃ c, c = (setsB o.do_ && !TW) := ⟨_, rfl⟩
                  rw [← hTW, ← hC5] at hR5
                  have HR5 := Lib.hid hR5
                  rw [HK2.out] at hC5
                  have HC5 := Lib.hid hC5
                  have HTW := Lib.hid hTW
                  have HBX := Lib.hid (bt HBW.out HBN.out)
                  have ho := heap_below HOR.out HBN.out
                  have k1 := cell_of_row _ _ 1 _ _ _ ho
                  clear hR5 hTW hC5 ho HR4 HOR HSR
                  go_upto_region 25 with fail
                  go_cut [162] (fun v wx => v = .bool C5 ∧ Hid (Below wc.heap.size wc wx))
                  case first =>
                    clear HR5 HA1
                    obtain ⟨ht0, htn⟩ := refOk_bounds HN.out (show refOk ks o.tk o.tf = true by rw [← HRO.out]; have h := HC4k.out; revert h; cases RO <;> simp)
                    have hH := HH3.out o.tk ht0 htn
                    obtain ⟨z3, w3, l3⟩ := look_at_key (HM.out.below (bt HB0.out HBX.out)) 300 o.tk (by omega) (by omega) ht0 (by have := H1.out; omega)
                    rw [hH, ← HTW.out] at l3
                    clear hH ht0 htn HRO HC4k HTW
                    cases TW <;>
                      (go_wp2_with fail
                       go_meet
                       exact ⟨by rw [HC5.out]; rfl, Lib.hid (Below.refl _ _)⟩)
                  case rest =>
                    obtain ⟨rfl, HBY⟩ := hcut
                    clear HC5 k1 HTW HC4k HRO
                    cases C5 with
                    | true =>
                      have HE := Lib.hid (show R = 8 by rw [HR5.out, if_pos rfl])
                      clear HR5
                      go_wp2_with fail
                      go_ret
                      exact ⟨by rw [HE.out]; rfl, bt (bt HB0.out HBX.out) HBY.out⟩
                    | false =>
                      have hR6 := HR5.out
                      rw [if_neg (by decide)] at hR6
                      unfold op6 at hR6
                      have HF3 := Lib.hid (show ∀ i, i < 2 → a3B rs ws (argOf o i) = true → R = 8 from fun i hi h => by rw [hR6, if_pos (argOf_any (p := a3B rs ws) hi h)])
                      have HG3 := Lib.hid (show (∀ j, j < 2 → a3B rs ws (argOf o j) = false) → R = 0 from fun h => by rw [hR6, if_neg (argOf_none (p := a3B rs ws) h)])
                      have HBZ := Lib.hid (bt HBX.out HBY.out)
                      obtain ⟨wn, hwn⟩ : ∃ w, w = wc := ⟨_, rfl⟩
                      rw [← hwn] at HBZ
                      have HWN := Lib.hid hwn
                      clear hR6 HR5 hwn HBY
                      go_wp2_with fail
                      rw [← HWN.out]
                      clear HWN
                      go_loopg [18, 165] 2 (fun gk v18 vi wx => ∃ i : Nat, i ≤ 2 ∧ gk = 2 - i ∧ vi = .int .i64 i ∧ Hid (∀ j, j < i → a3B rs ws (argOf o j) = false) ∧ Hid (Below wn.heap.size wn wx))
                      case atStart => exact ⟨0, by omega, rfl, rfl, Lib.hid (fun j hj => by omega), Lib.hid (Below.refl _ _)⟩
                      case round =>
                        obtain ⟨i, hi, g2, rfl, HPREV, HB⟩ := hrel
                        have G2 := Lib.hid g2
                        clear g2
                        by_cases hlt : i < 2
                        · obtain ⟨q0, q1, q2, q3⟩ := args_cells (heap_below HL.out (bt HBZ.out HB.out)) i hlt
                          obtain ⟨y, hy⟩ : ∃ y, y = argOf o i := ⟨_, rfl⟩
                          have hbnd := a1B_bounds (n := n) HN.out (HA1.out i hlt)
                          rw [← hy] at q0 q1 q2 q3 hbnd
                          obtain ⟨yh, yn, yk, yf⟩ := y
                          simp only at q0 q1 q2 q3 hbnd
                          have HBND := Lib.hid hbnd
                          have hbA := (Below.refl wr.heap.size wr).alloc (Nat.le_refl _) (.cells #[.bool yh, .int .i64 yn, .int .i64 yk, .int .i64 yf] 55)
                          have HBA := Lib.hid (bt HB.out hbA)
                          have HF := Lib.hid (show a3B rs ws ⟨yh, yn, yk, yf⟩ = true → R = 8 from fun h => HF3.out i hlt (by rw [← hy]; exact h))
                          have HGO := Lib.hid (show a3B rs ws ⟨yh, yn, yk, yf⟩ = false → ∀ j, j < i + 1 → a3B rs ws (argOf o j) = false from fun h j hj => by
                            by_cases hji : j < i
                            · exact HPREV.out j hji
                            · obtain rfl : j = i := by omega
                              rw [← hy]; exact h)
                          have HLT := Lib.hid (show ∃ k, i + 1 + k = 2 from ⟨2 - (i + 1), by omega⟩)
                          obtain ⟨BR, hBR⟩ : ∃ b, b = decide (yk ∈ rs) := ⟨_, rfl⟩
                          obtain ⟨BW, hBW⟩ : ∃ b, b = decide (yk ∈ ws) := ⟨_, rfl⟩
                          have HVB := Lib.hid (show a3B rs ws ⟨yh, yn, yk, yf⟩ = (yh && (!BR && !BW)) by unfold a3B; rw [hBR, hBW])
                          have HBRR := Lib.hid hBR
                          have HBWW := Lib.hid hBW
                          clear hy hbA hBR hBW hbnd
                          cases yh with
                          | false =>
                            have HN2 := Lib.hid (HGO.out (by rw [HVB.out]; rfl))
                            clear HGO HF HVB HBRR HBWW HBND
                            go_wp2_with fail
                            go_roundg (2 - (i + 1))
                            case measure => rw [G2.out]; obtain ⟨k, hk⟩ := HLT.out; omega
                            case rel => obtain ⟨k, hk⟩ := HLT.out; exact ⟨i + 1, by omega, rfl, by go_num, HN2, HBA⟩
                          | true =>
                            obtain ⟨hy0, hyn⟩ := HBND.out rfl
                            have HMX := Lib.hid (HM.out.below (bt HB0.out (bt HBZ.out HBA.out)))
                            have HL2 := Lib.hid (look_at_key HMX.out 200 yk (by omega) (by omega) hy0 (by have := H1.out; omega))
                            have HL3 := Lib.hid (look_at_key HMX.out 300 yk (by omega) (by omega) hy0 (by have := H1.out; omega))
                            have hH2 := HH2.out yk hy0 hyn
                            have hH3 := HH3.out yk hy0 hyn
                            obtain ⟨z2, w2, l2⟩ := HL2.out
                            obtain ⟨z3, w3, l3⟩ := HL3.out
                            rw [hH2, ← HBRR.out] at l2
                            rw [hH3, ← HBWW.out] at l3
                            clear HL2 HL3 hH2 hH3 HBRR HBWW HBND hy0 hyn HMX
                            cases BR with
                            | true =>
                              have HN2 := Lib.hid (HGO.out (by rw [HVB.out]; rfl))
                              clear HGO HF HVB l3 w3
                              go_wp2_with fail
                              clear l2 w2
                              go_roundg (2 - (i + 1))
                              case measure => rw [G2.out]; obtain ⟨k, hk⟩ := HLT.out; omega
                              case rel => obtain ⟨k, hk⟩ := HLT.out; exact ⟨i + 1, by omega, rfl, by go_num, HN2, HBA⟩
                            | false =>
                              cases BW with
                              | true =>
                                have HN2 := Lib.hid (HGO.out (by rw [HVB.out]; rfl))
                                clear HGO HF HVB
                                go_wp2_with fail
                                clear l2 w2 l3 w3
                                go_roundg (2 - (i + 1))
                                case measure => rw [G2.out]; obtain ⟨k, hk⟩ := HLT.out; omega
                                case rel => obtain ⟨k, hk⟩ := HLT.out; exact ⟨i + 1, by omega, rfl, by go_num, HN2, HBA⟩
                              | false =>
                                have HE := Lib.hid (HF.out (by rw [HVB.out]; rfl))
                                clear HGO HF HVB
                                go_wp2_with fail
                                go_ret
                                exact ⟨by rw [HE.out]; rfl, bt HB0.out (bt HBZ.out HBA.out)⟩
                        · obtain rfl : i = 2 := by omega
                          have HE := Lib.hid (HG3.out HPREV.out)
                          clear HG3 HF3 HPREV G2
                          go_wp2_with fail
                          go_ret
                          exact ⟨by rw [HE.out]; rfl, bt HB0.out (bt HBZ.out HB.out)⟩
end Go.Proofs.YtijeninfmjhbnaaDoor
end
