/- The law PlanRight: the walk. -/
import Derived.Test.YtembjokbhbdoeaaPlanOlder
import Derived.Test.YtembjokbhbdoeaaPlanDiv
namespace Go.Proofs.Ytembjokbhbdoeaa
open Go.ChangeShapes Go.WideShapes Go.ChangeAt Go.RowKit Go.Mem
set_option linter.unusedVariables false
theorem bool_same {S : Prop} {a b : Bool} (h1 : a = true ↔ S) (h2 : b = true ↔ S) : a = b := by
  cases a <;> cases b <;> simp_all
theorem fullN_len : ∀ ls : List (List Int), fullN ls ≤ ls.length
  | [] => Nat.le_refl _
  | x :: rs => by have := fullN_len rs; rw [fullN_cons, List.length_cons]; omega
set_option maxHeartbeats 8000000 in
theorem walk_PlanRight (a b : Option Addr) (c cb m nl : Nat) (l : List SysV) (ls : List (List Int)) (hm : l.length = m) (hnl : ls.length = nl) (h1 : m ≤ 1048576) (h2 : nl ≤ 1048576) (h3 : lens ls ≤ 1048576) (hwf : ∀ x ∈ ls, ∀ z ∈ x, (Lit.int .i64 z).wf = true) (w : World) (ha : SlAt 7 SysAt w a l) (hb0 : SlAt 1 IntsIn w b ls) :
    Calls Try.prog 3 #[.slice a m c, .slice b nl cb] w fun e w' => e = .returned (.bool true) ∧ Below w.heap.size w w' := by
  have LY := Lib.hid layered_w
  have OL := Lib.hid older_w
  have HA := Lib.hid ha
  have HLS := Lib.hid hb0
  have CR := Lib.hid (fun w' (hb : Below w.heap.size w w') => plan_Right a b c cb m nl l ls hm hnl h1 h2 h3 w' (ha.below SysAt.abides hb) (hb0.below IntsIn.abides hb))
  have CD := Lib.hid (fun w' (hb : Below w.heap.size w w') => ref_Divided a b c cb m nl l ls hm hnl h1 h2 h3 hwf w' (ha.below SysAt.abides hb) (hb0.below IntsIn.abides hb))
  have CL := Lib.hid (fun (h24 : m ≤ 24) w' (hb : Below w.heap.size w w') => plan_Layers a c m l hm h24 w' (ha.below SysAt.abides hb))
  have CG := Lib.hid (fun (h24 : 24 < m) w' => plan_Layers_large a c m h24 w')
  have HM := Lib.hid hm
  have HNL := Lib.hid hnl
  have HT := Lib.hid h3
  clear ha hb0 hm hnl hwf h3
  go_enter Try.func3, Try.ntmps3
  go_wp2_with fail
  refine (LY.out w).mono ?_
  rintro e w1 ⟨rfl, hb1⟩
  go_wp2_with fail
  refine (OL.out w1).mono ?_
  rintro e w2 ⟨⟨v, rfl, hs⟩, hb2⟩
  have hb := bt hb1 hb2
  obtain ⟨s0, a1, n1, c1, a2, n2, c2, a3, c3, a4, c4, a5, n5, c5, a6, n6, c6, rfl, r1, r2, r3, r4⟩ := hs
  simp only [List.length_nil, List.length_singleton]
  obtain ⟨O1, hO1⟩ : ∃ O : Obj, O = .cells #[.string s0, .slice a1 n1 c1, .slice a2 n2 c2, .slice a3 0 c3, .slice a4 1 c4, .slice a5 n5 c5, .slice a6 n6 c6] 30 (0, 0) := ⟨_, rfl⟩
  obtain ⟨O2, hO2⟩ : ∃ O : Obj, O = .cells #[.int .i64 0] 3 (0, 0) := ⟨_, rfl⟩
  obtain ⟨O3, hO3⟩ : ∃ O : Obj, O = .cells #[.slice (some ⟨w2.heap.size + 1, 0, none⟩) 1 1] 26 (0, 0) := ⟨_, rfl⟩
  obtain ⟨W3, hW3⟩ : ∃ W3, W3 = ((w2.alloc O1).alloc O2).alloc O3 := ⟨_, rfl⟩
  have f1 : W3.heap[w2.heap.size]? = some O1 := by rw [hW3]; exact heap_keep (heap_keep (heap_alloc_new w2 O1) O2) O3
  have f2 : W3.heap[w2.heap.size + 1]? = some O2 := by rw [hW3]; have := heap_keep (heap_alloc_new (w2.alloc O1) O2) O3; simpa using this
  have f3 : W3.heap[w2.heap.size + 1 + 1]? = some O3 := by rw [hW3]; have := heap_alloc_new ((w2.alloc O1).alloc O2) O3; simpa using this
  have hbO : Below w2.heap.size w2 W3 := by rw [hW3]; exact (((Below.refl w2.heap.size w2).alloc (Nat.le_refl _) O1).alloc (by simp) O2).alloc (by simp; omega) O3
  rw [hO1] at f1
  rw [hO2] at f2
  rw [hO3] at f3
  have hsl : SlAt 7 SysAt W3 (some ⟨w2.heap.size, 0, none⟩) [oldV] := fun _ => ⟨_, rfl, lt_of_heap f1, fun i hi => by
    have hi2 : i < 1 := hi
    obtain rfl : i = 0 := by omega
    rw [Addr.add_lit, Nat.zero_add]
    exact ⟨s0, a1, n1, c1, a2, n2, c2, a3, c3, a4, c4, a5, n5, c5, a6, n6, c6, ⟨cell_of_row _ _ 0 _ _ _ f1, cell_of_row _ _ 1 _ _ _ f1, cell_of_row _ _ 2 _ _ _ f1, cell_of_row _ _ 3 _ _ _ f1, cell_of_row _ _ 4 _ _ _ f1, cell_of_row _ _ 5 _ _ _ f1, cell_of_row _ _ 6 _ _ _ f1⟩, r1.below hbO, r2.below hbO, r3, r4⟩⟩
  have hsi : SlAt 1 IntsIn W3 (some ⟨w2.heap.size + 1 + 1, 0, none⟩) [[0]] := fun _ => ⟨_, rfl, lt_of_heap f3, fun i hi => by
    have hi2 : i < 1 := hi
    obtain rfl : i = 0 := by omega
    rw [Addr.add_lit, Nat.zero_add]
    exact ⟨some ⟨w2.heap.size + 1, 0, none⟩, 1, cell_of_row _ _ 0 _ _ _ f3, RowB.ints (k := .i64) (zs := [0]) (show RowB _ _ 3 .i64 [0] from f2)⟩⟩
  have C1 := plan_Right (some ⟨w2.heap.size, 0, none⟩) (some ⟨w2.heap.size + 1 + 1, 0, none⟩) 1 1 1 1 [oldV] [[0]] rfl rfl (by decide) (by decide) (by decide) W3 hsl hsi
  have hb3 : Below w.heap.size w W3 := hb.trans (hbO.mono hb.size)
  rw [hW3, hO1, hO2, hO3] at C1 hb3
  have HC1 := Lib.hid C1
  have HB3 := Lib.hid hb3
  clear hb1 hb2 LY OL hsl hsi C1 hb3 hbO f1 f2 f3 hW3 hO1 hO2 hO3 r1 r2 r3 r4 hb
  go_wp2_with fail
  refine HC1.out.mono ?_
  rintro e w4 ⟨⟨q, rfl, hq⟩, hb4⟩
  obtain rfl : q = true := hq.2 right_one
  have hb := HB3.out.trans (hb4.mono HB3.out.size)
  clear hq hb4 HB3 HC1
  go_wp2_with fail
  refine (CR.out _ hb).mono ?_
  rintro e w5 ⟨⟨is, rfl, hR⟩, hb5⟩
  have hb' := hb.trans (hb5.mono hb.size)
  clear hb hb5
  go_wp2_with fail
  refine (CD.out _ hb').mono ?_
  rintro e w6 ⟨⟨is2, rfl, hD⟩, hb6⟩
  have hb := hb'.trans (hb6.mono hb'.size)
  obtain rfl : is = is2 := bool_same hR ((hD).trans (right_div l m ls).symm)
  have HD := Lib.hid hD
  clear hb' hb6 hR hD CD
  by_cases h24 : m ≤ 24
  · have hbd := layL_bd (depL l m) m (fun j hj => by have := depL_le l m j hj; omega) m (Nat.le_refl _)
    have hlx := layL_lens (depL l m) m (fun j hj => (depL_le l m j hj).1) m (Nat.le_refl _)
    have hrt := (right_div l m _).2 (layers_right l m)
    have hfe := fun (h : DivS l m ls) => full_enough l m ls h
    have CX := CL.out h24 w6 hb
    obtain ⟨X, hX⟩ : ∃ X, X = layL (depL l m) m := ⟨_, rfl⟩
    rw [← hX] at hbd hlx hrt hfe CX
    have hxm : (X.map ints).length = X.length := by simp
    obtain ⟨xl, hxl⟩ : ∃ xl, xl = X.length := ⟨_, rfl⟩
    rw [← hxl] at hbd hfe CX hxm
    have hxb := hbd.1
    have CXX := Lib.hid CX
    have HFE := Lib.hid hfe
    have HRT := Lib.hid hrt
    have HLX := Lib.hid hlx
    have HXM := Lib.hid hxm
    clear hbd hlx hrt hfe CX hX hxl hxm CG CL
    go_wp2_with fail
    refine CXX.out.mono ?_
    rintro e w7 ⟨⟨a7, c7, rfl, hsx⟩, hb7⟩
    have hbb := hb.trans (hb7.mono hb.size)
    have HSX := Lib.hid hsx
    clear hb hb7 hsx CXX
    go_wp2_with fail
    go_loopg [8, 10, 41] nl (fun gk v8 _ vi wx => ∃ d : Nat, d ≤ nl ∧ gk = nl - d ∧ v8 = .int .i64 (fullN (ls.take d) : Nat) ∧ vi = .int .i64 d ∧ wx = w7)
    case atStart => exact ⟨0, Nat.zero_le _, rfl, rfl, rfl, rfl⟩
    case round =>
      obtain ⟨d, g1, g2, rfl, rfl, rfl⟩ := hrel
      have G2 := Lib.hid g2
      clear g2
      by_cases hlt : d < nl
      · obtain ⟨x, rfl, hx, hcx⟩ := HLS.out (by rw [HNL.out]; omega)
        have hdl : d < ls.length := by rw [HNL.out]; exact hlt
        obtain ⟨ax, cx, e0, hia⟩ := hcx d hdl
        rw [Nat.mul_one] at e0
        have e1 := cell_abides e0 hbb
        have hft : fullN (ls.take (d + 1)) = fullN (ls.take d) + min (ls[d]).length 1 := by
          rw [List.take_succ_eq_append_getElem hdl, fullN_app]
          unfold fullN
          simp
        obtain ⟨nr, hnr⟩ : ∃ nr, nr = (ls[d]).length := ⟨_, rfl⟩
        rw [← hnr] at e1 hft
        obtain ⟨fd, hfd⟩ : ∃ fd, fd = fullN (ls.take d) := ⟨_, rfl⟩
        have hfb : fd ≤ 1048576 := by
          rw [hfd]
          have h4 := fullN_len (ls.take d)
          rw [List.length_take] at h4
          omega
        rw [← hfd] at hft ⊢
        have HFT := Lib.hid hft
        clear hcx e0 hia hnr hfd hft
        go_wp2
        go_roundg (nl - (d + 1))
        case measure => rw [G2.out]; omega
        case rel => exact ⟨d + 1, hlt, rfl, by rw [HFT.out]; go_num, by go_num, rfl⟩
      · have hdd : d = nl := by omega
        have htk : ls.take d = ls := by rw [hdd, ← HNL.out, List.take_length]
        rw [htk]
        obtain ⟨full, hfull⟩ : ∃ full, full = fullN ls := ⟨_, rfl⟩
        rw [← hfull]
        rw [← hfull] at HFE
        have CR2 := Lib.hid (plan_Right a a7 c c7 m xl l (X.map ints) HM.out HXM.out h1 (by omega) (by rw [HLX.out]; omega) wr (HA.out.below SysAt.abides hbb) HSX.out)
        clear htk hfull hdd
        go_wp2_with fail
        refine CR2.out.mono ?_
        rintro e w8 ⟨⟨q, rfl, hq⟩, hb8⟩
        obtain rfl : q = true := hq.2 HRT.out
        have hb9 := hbb.trans (hb8.mono hbb.size)
        clear hq hb8 CR2
        cases is with
        | false =>
          go_wp2
          go_ret
          exact ⟨rfl, hb9⟩
        | true =>
          have hge := HFE.out (HD.out.1 (by trivial))
          have tge : decide ((xl : Int) ≤ (full : Int)) = true := decide_eq_true (by omega)
          go_wp2
          go_ret
          exact ⟨by first | rfl | simp [hge], hb9⟩
  · have h24' : 24 < m := by omega
    go_wp2_with fail
    refine (CG.out h24' _).mono ?_
    rintro e w7 ⟨rfl, hb7⟩
    go_wp2
    go_ret
    exact ⟨congrArg (fun b => Ending.returned (.bool b)) (decide_eq_true (by omega)), hb.trans (hb7.mono hb.size)⟩
end Go.Proofs.Ytembjokbhbdoeaa
