/- The reference's Shuffled. -/
import Derived.Test.YtdhaaeaacbnghaaOrder
namespace Go.Proofs.Ytdhaaeaacbnghaa
open Go.ChangeShapes Go.WideShapes Go.ChangeAt Go.RowKit Go.Mem
set_option linter.unusedVariables false

theorem swap_other (l : List Int) (a b : Nat) : (l.set b (l.getD a 0)).set a (l.getD b 0) = swap l a b := by
  by_cases h : a = b
  · subst h; rfl
  · rw [swap, List.set_comm _ _ h]

set_option maxHeartbeats 8000000 in
theorem ref_Shuffled (f : Nat → Nat → Nat) (s g n : Nat) (hf : Counts f g) (hs : s < 18446744073709551616) (hg : g < 18446744073709551616) (ho : g % 2 = 1) (hn : n ≤ 1000) (w : World) :
    Calls Try.prog 45 #[.agg #[.int .u64 s, .int .u64 g], .int .i64 n] w fun e w' => ∃ a : Option Addr, e = .returned (.tuple #[.slice a n n, .agg #[.int .u64 ((shuf f g (n - 1) s (iota n)).1 : Nat), .int .u64 g]]) ∧
      IntsAt .i64 w' a (shuf f g (n - 1) s (iota n)).2 ∧ Below w.heap.size w w' := by
  have HF := Lib.hid hf
  clear hf
  have hr := row_first w (.cells #[.int .u64 s, .int .u64 g] 24) (.cells #[.int .u64 0, .int .u64 0] 24)
  have hd := row_second w (.cells #[.int .u64 s, .int .u64 g] 24) (.cells #[.int .u64 0, .int .u64 0] 24)
  have hb := ((Below.refl w.heap.size w).alloc (Nat.le_refl _) (.cells #[.int .u64 s, .int .u64 g] 24)).alloc (by simp) (.cells #[.int .u64 0, .int .u64 0] 24)
  have HR := Lib.hid hr
  have HD := Lib.hid hd
  have hz : ((w.alloc (.cells #[.int .u64 s, .int .u64 g] 24)).alloc (.cells #[.int .u64 0, .int .u64 0] 24)).heap.size = w.heap.size + 1 + 1 := by simp
  have HZ := Lib.hid hz
  clear hr hd hz
  go_enter Try.func45, Try.ntmps45
  go_wp2_with (at_make; go_must (refine wpList_make_rowB rfl _ _ 34 rfl 3 .i64 8 Try.underlying34 (by kernel_rfl) _ _ _ _ n rfl rfl rfl rfl ?b1 ?b2 ?_))
  case b1 => omega
  case b2 => unfold maxLen; omega
  intro w1 hro hb1 hz1
  have HR1 := Lib.hid ((hb1.block _ (by omega)).trans HR.out)
  have HD1 := Lib.hid ((hb1.block _ (by omega)).trans HD.out)
  replace hb := hb.trans (hb1.mono (by omega))
  clear hb1 HR HD HZ hz1
  obtain ⟨G, hG⟩ : ∃ G, G = w.heap.size + 1 + 1 := ⟨_, rfl⟩
  rw [← hG] at hro ⊢
  have hGB : w.heap.size + 1 < G := by omega
  clear hG
  go_wp2
  go_loopg [7, 16] n (fun gk _ vi wx => ∃ (k : Nat) (out : List Int), k ≤ n ∧ gk = n - k ∧ vi = .int .i64 k ∧ out.length = n ∧ (∀ j, j < k → out.getD j 0 = (j : Int)) ∧ RowB wx G 3 .i64 out ∧ wx.heap[w.heap.size]? = some (.cells #[.int .u64 s, .int .u64 g] 24 (0, 0)) ∧ wx.heap[w.heap.size + 1]? = some (.cells #[.int .u64 0, .int .u64 0] 24 (0, 0)) ∧ Below w.heap.size w wx)
  case atStart => exact ⟨0, List.replicate n 0, by omega, rfl, rfl, by simp, fun j h => by omega, hro, HR1.out, HD1.out, hb⟩
  case round =>
    clear hro hb HR1 HD1
    obtain ⟨k, out, h1, h2, rfl, hlen, hout, hro, hr, hd, hb⟩ := hrel
    have H2 := Lib.hid h2
    have HLEN := Lib.hid hlen
    have HOUT := Lib.hid hout
    have HR := Lib.hid hr
    have HD := Lib.hid hd
    have HRO := Lib.hid hro
    clear h2 hlen hout hr hd hro
    by_cases hlt : k < n
    · have e1 := HRO.out.cell k (by rw [HLEN.out]; exact hlt)
      have e2 := HRO.out.frozen k
      go_wp2
      go_roundg (n - (k + 1))
      case measure => rw [H2.out]; omega
      case rel =>
        refine ⟨k + 1, out.set k k, by omega, rfl, by go_num, by rw [List.length_set]; exact HLEN.out, fun j hj => ?_, HRO.out.set k k, heap_far HR.out (by simp; omega) _, heap_far HD.out (by simp; omega) _, hb.setCell (by simp; omega) _⟩
        by_cases q : j = k
        · subst q
          have : j < out.length := by rw [HLEN.out]; exact hlt
          simp [this]
        · rw [List.getD_eq_getElem?_getD, List.getElem?_set_ne (by omega), ← List.getD_eq_getElem?_getD]
          exact HOUT.out j (by omega)
    · obtain rfl : k = n := by omega
      have ho : out = iota k := iota_of k out HLEN.out HOUT.out
      subst ho
      clear HOUT H2
      go_wp2_with fail
      obtain ⟨wo, rfl⟩ : ∃ wo : World, wo = wr := ⟨_, rfl⟩
      go_loopg [8, 9, 10, 11] k (fun gk vi _ _ _ wx => ∃ (q S : Nat) (out : List Int), q ≤ k ∧ gk = q ∧ vi = .int .i64 ((q : Int) - 1) ∧ S < 18446744073709551616 ∧ out.length = k ∧ shuf f g (q - 1) S out = shuf f g (k - 1) s (iota k) ∧ RowB wx G 3 .i64 out ∧ wx.heap[w.heap.size]? = some (.cells #[.int .u64 S, .int .u64 g] 24 (0, 0)) ∧ wx.heap[w.heap.size + 1]? = some (.cells #[.int .u64 0, .int .u64 0] 24 (0, 0)) ∧ Below w.heap.size w wx)
      case atStart => exact ⟨k, s, iota k, Nat.le_refl _, rfl, rfl, hs, HLEN.out, rfl, HRO.out, HR.out, HD.out, hb⟩
      case round =>
        clear hb HR HD HRO HLEN
        obtain ⟨q, S, out, h1, h2, rfl, lS, hlen, hsh, hro, hr, hd, hb⟩ := hrel
        have H2 := Lib.hid h2
        have HLEN := Lib.hid hlen
        have HSH := Lib.hid hsh
        have HR := Lib.hid hr
        have HD := Lib.hid hd
        have HRO := Lib.hid hro
        clear h2 hlen hsh hr hd hro
        by_cases hlt : 2 ≤ q
        · obtain ⟨i, rfl⟩ : ∃ i, q = i + 2 := ⟨q - 2, by omega⟩
          obtain ⟨L, hL⟩ : ∃ L, L = i + 1 := ⟨_, rfl⟩
          have eL : ((i + 2 : Nat) : Int) - 1 = (L : Int) := by omega
          rw [eL]
          obtain ⟨f1, f2, f3⟩ := HF.out (i + 2) S (by omega) (by omega)
          have cu := ref_Under S g (i + 2) (f (i + 2) S) lS hg (by omega) (by omega) f1 f2 f3
          have eM : ((i + 2 : Nat) : Int) = (L : Int) + 1 := by omega
          obtain ⟨U, hU⟩ : ∃ U, U = IntKind.i64.wrap ((f (i + 2) S : Nat) : Int) := ⟨_, rfl⟩
          have cv := ref_Behind S g (f (i + 2) S % 18446744073709551616) lS hg (Nat.mod_lt _ (by omega)) U (by rw [hU]; exact W64.uwN _)
          rw [st_mod] at cv
          obtain ⟨T, hT⟩ : ∃ T, T = st S g (f (i + 2) S) := ⟨_, rfl⟩
          have lT : T < 18446744073709551616 := by rw [hT]; exact st_lt _ _ _
          obtain ⟨K, hK⟩ : ∃ K, K = mix T % (i + 2) := ⟨_, rfl⟩
          have lK : K < i + 2 := by rw [hK]; exact Nat.mod_lt _ (by omega)
          rw [← hT, ← hK, eM, ← hU] at cu
          rw [← hT] at cv
          have hnx : shuf f g (i + 1) S out = shuf f g i T (swap out L K) := by
            show shuf f g i (st S g (f (i + 2) S)) _ = _
            rw [← hT, ← hK, ← hL]
          have HNX := Lib.hid hnx
          have HL := Lib.hid hL
          have CU := Lib.hid cu
          have CV := Lib.hid cv
          have lL : L < k := by omega
          have lK2 : K ≤ L := by omega
          have l0 := lt_of_heap HR.out
          have c0 := cell_of_row _ _ 0 _ _ _ HR.out
          have c1 := cell_of_row _ _ 1 _ _ _ HR.out
          have kd : decide (0 < L) = true := by simp; omega
          clear cu cv hT hK hU hnx eM eL f1 f2 f3 lK hL
          go_wp2_with fail
          refine (CU.out _).mono ?_
          rintro e w2 ⟨rfl, hb2⟩
          replace HR := Lib.hid (heap_below HR.out hb2)
          replace HD := Lib.hid (heap_below HD.out hb2)
          replace HRO := Lib.hid (HRO.out.below hb2)
          replace hb := bt hb hb2
          clear hb2 c0 c1 CU l0
          have c0 := cell_of_row _ _ 0 _ _ _ HR.out
          have c1 := cell_of_row _ _ 1 _ _ _ HR.out
          go_wp2_with fail
          refine (CV.out _).mono ?_
          rintro e w3 ⟨rfl, hb2⟩
          replace HR := Lib.hid (heap_below HR.out hb2)
          replace HD := Lib.hid (heap_below HD.out hb2)
          replace HRO := Lib.hid (HRO.out.below hb2)
          replace hb := bt hb hb2
          have lG := HRO.out.lt
          clear hb2 c0 c1 CV
          obtain ⟨x, hx⟩ : ∃ x, x = out.getD L 0 := ⟨_, rfl⟩
          obtain ⟨y, hy⟩ : ∃ y, y = out.getD K 0 := ⟨_, rfl⟩
          have hsw : (out.set K x).set L y = swap out L K := by rw [hx, hy, swap_other]
          have HSW := Lib.hid hsw
          have HXY := Lib.hid (And.intro hx hy)
          have i1 : (0 : Int) ≤ (L : Int) := by omega
          have i2 : (L : Int) < (k : Int) := by omega
          have i3 : (0 : Int) ≤ (K : Int) := by omega
          have i4 : (K : Int) < (k : Int) := by omega
          clear hsw hx hy
          by_cases eKL : K = L
          · have EKL := Lib.hid (show x = y by rw [HXY.out.1, HXY.out.2, eKL])
            subst eKL
            go_wp2_with (refine wpList_store_rowP rfl 24 (.tmp 2) (.tmp 39) rfl w.heap.size #[.int .u64 T, .int .u64 g] rfl rfl _ _ HR.out (by kernel_rfl) rfl (ones2 _ _ rfl rfl) ?_; intro w4 P3; have HR3 := Lib.hid P3.here; have HD3 := Lib.hid (heap_putR HD.out P3 (by omega)); have HRO3 := Lib.hid (HRO.out.putR P3 (by omega)); have hb3 := hb.trans (P3.below (Nat.le_refl _)); have cL := HRO3.out.cell K (by rw [HLEN.out]; omega); have fL := HRO3.out.frozen K; rw [← HXY.out.1] at cL; clear P3 HR HD HRO hb)
            go_roundg (i + 1)
            case measure => rw [H2.out]; omega
            case rel => exact ⟨i + 1, T, swap out K K, by omega, rfl, by rw [HL.out], lT, by rw [swap_length]; exact HLEN.out, HNX.out.symm.trans HSH.out, by rw [← HSW.out, ← EKL.out]; exact ((HRO3.out.set K x).set K x), heap_far2 HR3.out (by omega) _ _ _ _, heap_far2 HD3.out (by omega) _ _ _ _, (hb3.setCell (by simp; omega) _).setCell (by simp; omega) _⟩
          · go_wp2_with (refine wpList_store_rowP rfl 24 (.tmp 2) (.tmp 39) rfl w.heap.size #[.int .u64 T, .int .u64 g] rfl rfl _ _ HR.out (by kernel_rfl) rfl (ones2 _ _ rfl rfl) ?_; intro w4 P3; have HR3 := Lib.hid P3.here; have HD3 := Lib.hid (heap_putR HD.out P3 (by omega)); have HRO3 := Lib.hid (HRO.out.putR P3 (by omega)); have hb3 := hb.trans (P3.below (Nat.le_refl _)); have cL := HRO3.out.cell L (by rw [HLEN.out]; omega); have fL := HRO3.out.frozen L; have cK := HRO3.out.cell K (by rw [HLEN.out]; omega); have fK := HRO3.out.frozen K; rw [← HXY.out.1] at cL; rw [← HXY.out.2] at cK; clear P3 HR HD HRO hb)
            go_roundg (i + 1)
            case measure => rw [H2.out]; omega
            case rel => exact ⟨i + 1, T, swap out L K, by omega, rfl, by rw [HL.out], lT, by rw [swap_length]; exact HLEN.out, HNX.out.symm.trans HSH.out, by rw [← HSW.out]; exact ((HRO3.out.set K x).set L y), heap_far2 HR3.out (by omega) _ _ _ _, heap_far2 HD3.out (by omega) _ _ _ _, (hb3.setCell (by simp; omega) _).setCell (by simp; omega) _⟩
        · have q1 : shuf f g (k - 1) s (iota k) = (S, out) := by rw [← HSH.out, show q - 1 = 0 by omega]; rfl
          have Q1 := Lib.hid q1
          have c0 := cell_of_row _ _ 0 _ _ _ HR.out
          have c1 := cell_of_row _ _ 1 _ _ _ HR.out
          have d0 := cell_of_row _ _ 0 _ _ _ HD.out
          have d1 := cell_of_row _ _ 1 _ _ _ HD.out
          have f0 := Mem.frozen_of_row HD.out 0
          have f1 := Mem.frozen_of_row HD.out 1
          clear HSH H2 q1
          rcases (show q = 0 ∨ q = 1 by omega) with rfl | rfl
          all_goals go_wp2_with fail
          all_goals go_region
          all_goals
            go_wp2
            refine bodyPost_ret (results_tc Try.results45 _ _ (w.heap.size + 1) 24 #[.int .u64 S, .int .u64 g] (0, 0) _ rfl (Mem.heap_drew (heap_set2 HD.out _ _)) Try.underlying24 rfl (by kernel_rfl)) rfl ⟨some ⟨G, 0, none⟩, ?_, ?_, ?_⟩
            · rw [Q1.out]; rfl
            · rw [Q1.out]; exact (RowB.drew ((HRO.out.far (p := ⟨w.heap.size + 1, 0, none⟩) (by simp; omega) _).far (p := ⟨w.heap.size + 1, 1, none⟩) (by simp; omega) _)).ints
            · exact ((hb.setCell (by simp) _).setCell (by simp) _).drew
end Go.Proofs.Ytdhaaeaacbnghaa
