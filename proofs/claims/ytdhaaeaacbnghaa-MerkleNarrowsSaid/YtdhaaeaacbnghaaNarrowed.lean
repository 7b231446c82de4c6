/- The reference's Narrowed. -/
import Derived.Test.YtdhaaeaacbnghaaNarrow
import Derived.Test.YtdhaaeaacbnghaaClone
namespace Go.Proofs.Ytdhaaeaacbnghaa
open Go.ChangeShapes Go.WideShapes Go.ChangeAt Go.RowKit Go.Mem Go.Mk
set_option linter.unusedVariables false

theorem fill_take (la lb : List Int) : (fill la lb).take la.length = la := by rw [fill, List.take_left' rfl]
theorem fill_get (la lb : List Int) (k : Nat) (h1 : la.length ≤ k) (h2 : k < lb.length) : (fill la lb).getD k 0 = compl (lb.getD k 0) := by
  rw [fill, List.getD_eq_getElem?_getD, List.getElem?_append_right h1, List.getElem?_map, List.getElem?_drop, show la.length + (k - la.length) = k by omega]
  simp [h2]
theorem fill_old (la lb : List Int) (k : Nat) (h1 : k < la.length) : (fill la lb).getD k 0 = la.getD k 0 := by
  rw [fill, List.getD_eq_getElem?_getD, List.getElem?_append_left h1, ← List.getD_eq_getElem?_getD]
theorem fill_all (la lb : List Int) (k : Nat) (h : k = max la.length lb.length) : (fill la lb).take k = fill la lb := List.take_of_length_le (by rw [fill_length, h]; exact Nat.le_refl _)
theorem fill_snoc (la lb : List Int) (k z : Nat) (h1 : la.length ≤ k) (h2 : k < lb.length) (hz : lb.getD k 0 = (z : Int)) (lz : z < 18446744073709551616) : vints .u64 ((fill la lb).take (k + 1)) = vints .u64 ((fill la lb).take k) ++ [Value.int .u64 ((18446744073709551615 - z : Nat) : Int)] := by
  rw [take_snoc' _ k 0 (by rw [fill_length]; omega), fill_get la lb k h1 h2, hz]
  have : compl (z : Int) = ((18446744073709551615 - z : Nat) : Int) := by unfold compl; omega
  rw [this]; simp [vints]

theorem own_cap {w : World} {base e size n c : Nat} {a : Option Addr} {xs : List Value} (h : w.ownsRow base e size (.slice a n c) n xs) : c ≤ 9223372036854775807 := by
  rcases h.2 with ⟨h1, _⟩ | ⟨g, cap, cur, h1, _, _, _, h4, _⟩
  · injection h1 with _ _ h3; omega
  · injection h1 with _ _ h3; rw [h3]; exact h4
theorem ne_next {wr : World} {va vb : Value} {g' c k B e s m : Nat} {ys : List Value} (hne : ∀ g, va.ownBlock = some g → some g ≠ vb.ownBlock) (hob : wr.ownsRow B e s vb m ys) (hor : va.ownBlock = some g' ∨ g' = wr.heap.size + 1) :
    ∀ g, (Value.slice (some ⟨g', 0, none⟩) k c).ownBlock = some g → some g ≠ vb.ownBlock := fun g hg he => by
  obtain rfl : g' = g := by simpa [Value.ownBlock] using hg
  rcases hor with h | h
  · exact hne _ h he
  · have := (own_lt hob _ he.symm).2
    omega
theorem ne_swap {va vb : Value} (h : ∀ g, va.ownBlock = some g → some g ≠ vb.ownBlock) : ∀ g, vb.ownBlock = some g → some g ≠ va.ownBlock := fun g hg he => h g he.symm hg.symm

theorem keepII {w w1 w2 : World} {a b : Option Addr} {zs ys : List Int} {B : Nat} (h : IntsAt .u64 w1 a zs ∧ IntsAt .u64 w1 b ys ∧ Below B w w1) (hb : Below w1.heap.size w1 w2) (hB : B ≤ w.heap.size) : IntsAt .u64 w2 a zs ∧ IntsAt .u64 w2 b ys ∧ Below B w w2 := ⟨h.1.below hb, h.2.1.below hb, h.2.2.trans (hb.mono (Nat.le_trans hB h.2.2.size))⟩
theorem oneI {w w1 : World} {a b : Option Addr} {zs ys : List Int} {B : Nat} (h : IntsAt .u64 w1 a zs ∧ IntsAt .u64 w1 b ys ∧ Below B w w1) : IntsAt .u64 w1 a zs := h.1
theorem twoI {w w1 : World} {a b : Option Addr} {zs ys : List Int} {B : Nat} (h : IntsAt .u64 w1 a zs ∧ IntsAt .u64 w1 b ys ∧ Below B w w1) : IntsAt .u64 w1 b ys := h.2.1

set_option maxHeartbeats 16000000 in
set_option maxRecDepth 100000 in
theorem ref_Narrowed (la lb : List Int) (a b : Option Addr) (n m ca cb : Nat) (hn : la.length = n) (hm : lb.length = m) (h1 : 1 ≤ max n m) (h2 : max n m ≤ 4096) (ha : U64s la) (hb : U64s lb) (w : World) (hia : IntsAt .u64 w a la) (hib : IntsAt .u64 w b lb) :
    Calls Try.prog 73 #[.slice a n ca, .slice b m cb] w fun e w' => e = .returned (.tuple #[.int .i64 (narrow (fill la lb) (fill lb la)).1, .int .i64 (narrow (fill la lb) (fill lb la)).2]) ∧ Below w.heap.size w w' := by
  have c1 := fun w h => clone_words la a n ca hn (by omega) w h
  have c2 := fun w h => clone_words lb b m cb hm (by omega) w h
  have C1 := Lib.hid c1
  have C2 := Lib.hid c2
  have HN := Lib.hid hn
  have HM := Lib.hid hm
  have HUA := Lib.hid ha
  have HUB := Lib.hid hb
  have HIA := Lib.hid hia
  have HIB := Lib.hid hib
  clear c1 c2 hn hm ha hb hia hib
  go_enter Try.func73, Try.ntmps73
  go_wp2_with fail
  refine (C1.out _ HIA.out).mono ?_
  rintro e w1 ⟨va, rfl, hoa, hb1⟩
  obtain ⟨aa, cca, rfl, hca, _⟩ := own_slice2 hoa
  have HOA := Lib.hid hoa
  clear hoa
  go_wp2_with fail
  refine (C2.out _ (HIB.out.below hb1)).mono ?_
  rintro e w2 ⟨vb, rfl, hob, hb2⟩
  obtain ⟨ab, ccb, rfl, hcb, _⟩ := own_slice2 hob
  have hne : ∀ g, (Value.slice aa n cca).ownBlock = some g → some g ≠ (Value.slice ab m ccb).ownBlock := fun g hg he => by
    have l1 := (own_lt HOA.out g hg).2
    have l2 := (own_lt hob g he.symm).1
    omega
  have HOB := Lib.hid (own_base (base2 := w.heap.size) hob (fun g hg => by have := (own_lt hob g hg).1; have := hb1.size; omega))
  have HOA2 := Lib.hid (own_below HOA.out hb2)
  have HNE := Lib.hid hne
  have hbw := bt hb1 hb2
  have hta : vints .u64 la = vints .u64 ((fill la lb).take n) := by rw [← HN.out, fill_take]
  have HTA := Lib.hid hta
  clear hob hne hb1 hb2 HOA hta
  go_wp2
  go_loopg [0] (m - n) (fun gk v wx => ∃ (k c : Nat) (aa : Option Addr), gk = m - k ∧ n ≤ k ∧ (k = n ∨ k ≤ m) ∧ v = .slice aa k c ∧ k ≤ c ∧ wx.ownsRow w.heap.size 22 1 (.slice aa k c) k (vints .u64 ((fill la lb).take k)) ∧ wx.ownsRow w.heap.size 22 1 (.slice ab m ccb) m (vints .u64 lb) ∧ (∀ g, (Value.slice aa k c).ownBlock = some g → some g ≠ (Value.slice ab m ccb).ownBlock) ∧ Below w.heap.size w wx)
  case atStart => exact ⟨n, cca, aa, rfl, Nat.le_refl _, Or.inl rfl, rfl, hca, by rw [← HTA.out]; exact HOA2.out, HOB.out, HNE.out, hbw⟩
  case round =>
    clear HOA2 HOB HNE hbw hca
    obtain ⟨k, c, aa, hg, k1, k2, rfl, hkc, hoa, hob, hne, hbw⟩ := hrel
    have HG := Lib.hid hg
    have HOA := Lib.hid hoa
    have HOB := Lib.hid hob
    have HNE := Lib.hid hne
    clear hg hoa hob hne
    by_cases hlt : k < m
    · obtain ⟨ab2, cb2, e2, _, hib2⟩ := own_slice2 HOB.out
      injection e2 with e2 _ e3
      subst e2
      subst e3
      obtain ⟨y, rfl, hy, hcy⟩ := hib2 (by rw [HM.out]; omega)
      have hcell := hcy k (by rw [HM.out]; exact hlt)
      obtain ⟨z, hz, lz⟩ := (HUB.out.getD_in k).nat
      rw [hz] at hcell
      have hsn := fill_snoc la lb k z (by rw [HN.out]; exact k1) (by rw [HM.out]; exact hlt) hz lz
      have hx2 := W64.xor_max z lz
      obtain ⟨q, hq⟩ : ∃ q, q = 18446744073709551615 - z := ⟨_, rfl⟩
      rw [← hq] at hx2 hsn
      have HSN := Lib.hid hsn
      clear hcy hz hsn hq hib2
      go_wp2_with (at_builtin; go_must (refine wpList_append_new rfl _ _ 33 rfl w.heap.size 22 (.int .u64 0) 1 8 Try.underlying33 (by kernel_rfl) rfl (by decide) _ _ _ rfl HOA.out _ _ rfl rfl rfl (by omega) (by decide) hbw.size ?_))
      intro g' cap' w' hown' hg hor hlt'
      have hbn : Below w.heap.size w w' := hbw.grown hg hbw.size (fun j hj => (own_lt HOA.out j hj).1)
      have HB1 := Lib.hid (own_grown HOB.out hg (ne_swap HNE.out))
      have HNE1 := Lib.hid (ne_next (k := k + 1) (c := cap') HNE.out HOB.out hor)
      have HA1 := Lib.hid (show w'.ownsRow w.heap.size 22 1 (.slice (some ⟨g', 0, none⟩) (k + 1) cap') (k + 1) (vints .u64 ((fill la lb).take (k + 1))) by rw [HSN.out]; exact hown')
      have hcc : k + 1 ≤ cap' := by
        rcases hown'.2 with ⟨h, _⟩ | ⟨_, _, _, h, _, _, h3, _⟩
        · cases h
        · injection h with _ _ h4; rw [h4]; exact h3
      clear hown' hg hor hbw
      go_wp2
      go_roundg (m - (k + 1))
      case measure => rw [HG.out]; omega
      case rel => exact ⟨k + 1, cap', _, rfl, by omega, Or.inr (by omega), rfl, hcc, HA1.out, HB1.out, HNE1.out, hbn⟩
    · obtain ⟨N, hN⟩ : ∃ N, N = max n m := ⟨_, rfl⟩
      obtain rfl : k = N := by omega
      have ek : (fill la lb).take k = fill la lb := fill_all la lb k (by rw [HN.out, HM.out]; exact hN)
      have hoa := HOA.out
      rw [ek] at hoa
      have HOA1 := Lib.hid hoa
      have hkm : (m : Int) ≤ (k : Int) := by omega
      have htb : vints .u64 lb = vints .u64 ((fill lb la).take m) := by rw [← HM.out, fill_take]
      have HTB := Lib.hid htb
      have HNN := Lib.hid hN
      have hNm : m ≤ k := by omega
      have hkb : k ≤ 4096 := by omega
      have hNk : k = n ∨ k = m := by omega
      have HNK := Lib.hid hNk
      clear ek hoa HOA htb hN hNk k2
      go_wp2_with fail
      obtain ⟨wo, hwo⟩ : ∃ wo : World, wo = wr := ⟨_, rfl⟩
      subst hwo
      go_loopg [1] (k - m) (fun gk v wx => ∃ (j c2 : Nat) (bb : Option Addr), gk = k - j ∧ m ≤ j ∧ j ≤ k ∧ v = .slice bb j c2 ∧ j ≤ c2 ∧ wx.ownsRow w.heap.size 22 1 (.slice bb j c2) j (vints .u64 ((fill lb la).take j)) ∧ wx.ownsRow w.heap.size 22 1 (.slice aa k c) k (vints .u64 (fill la lb)) ∧ (∀ g, (Value.slice bb j c2).ownBlock = some g → some g ≠ (Value.slice aa k c).ownBlock) ∧ Below w.heap.size w wx)
      case atStart => exact ⟨m, ccb, ab, rfl, Nat.le_refl _, hNm, rfl, hcb, by rw [← HTB.out]; exact HOB.out, HOA1.out, ne_swap HNE.out, hbw⟩
      case round =>
        clear HOB HOA1 HNE hbw hcb
        obtain ⟨j, c2, bb, hg, k1, k2, rfl, hkc2, hob, hoa, hne, hbw⟩ := hrel
        have HG2 := Lib.hid hg
        have HOA := Lib.hid hoa
        have HOB := Lib.hid hob
        have HNE := Lib.hid hne
        clear hg hoa hob hne
        by_cases hlt2 : j < k
        · obtain ⟨ab2, cb2, e2, _, hib2⟩ := own_slice2 HOA.out
          injection e2 with e2 _ e3
          subst e2
          subst e3
          have hjn : j < n := by have := HNK.out; omega
          obtain ⟨y, rfl, hy, hcy⟩ := hib2 (by rw [fill_length, HN.out, HM.out]; omega)
          have hcell := hcy j (by rw [fill_length, HN.out, HM.out]; omega)
          rw [fill_old la lb j (by rw [HN.out]; exact hjn)] at hcell
          obtain ⟨z, hz, lz⟩ := (HUA.out.getD_in j).nat
          rw [hz] at hcell
          have hsn := fill_snoc lb la j z (by rw [HM.out]; exact k1) (by rw [HN.out]; exact hjn) hz lz
          have hx2 := W64.xor_max z lz
          obtain ⟨q, hq⟩ : ∃ q, q = 18446744073709551615 - z := ⟨_, rfl⟩
          rw [← hq] at hx2 hsn
          have HSN := Lib.hid hsn
          clear hcy hz hsn hq hib2
          go_wp2_with (at_builtin; go_must (refine wpList_append_new rfl _ _ 33 rfl w.heap.size 22 (.int .u64 0) 1 8 Try.underlying33 (by kernel_rfl) rfl (by decide) _ _ _ rfl HOB.out _ _ rfl rfl rfl (by omega) (by decide) hbw.size ?_))
          intro g' cap' w' hown' hg hor hlt'
          have hbn : Below w.heap.size w w' := hbw.grown hg hbw.size (fun j hj => (own_lt HOB.out j hj).1)
          have HA1 := Lib.hid (own_grown HOA.out hg (ne_swap HNE.out))
          have HNE1 := Lib.hid (ne_next (k := j + 1) (c := cap') HNE.out HOA.out hor)
          have HB1 := Lib.hid (show w'.ownsRow w.heap.size 22 1 (.slice (some ⟨g', 0, none⟩) (j + 1) cap') (j + 1) (vints .u64 ((fill lb la).take (j + 1))) by rw [HSN.out]; exact hown')
          have hcc : j + 1 ≤ cap' := by
            rcases hown'.2 with ⟨h, _⟩ | ⟨_, _, _, h, _, _, h3, _⟩
            · cases h
            · injection h with _ _ h4; rw [h4]; exact h3
          clear hown' hg hor hbw
          go_wp2
          go_roundg (k - (j + 1))
          case measure => rw [HG2.out]; omega
          case rel => exact ⟨j + 1, cap', _, rfl, by omega, by omega, rfl, hcc, HB1.out, HA1.out, HNE1.out, hbn⟩
        · obtain rfl : j = k := by omega
          have ek : (fill lb la).take j = fill lb la := fill_all lb la j (by rw [HN.out, HM.out]; have := HNN.out; omega)
          have hob := HOB.out
          rw [ek] at hob
          obtain ⟨ax, cax, e2, _, hxa⟩ := own_slice2 HOA.out
          injection e2 with e2 _ e3
          subst e2
          subst e3
          obtain ⟨bx, cbx, e2, _, hxb⟩ := own_slice2 hob
          injection e2 with e2 _ e3
          subst e2
          subst e3
          have hXl : (fill la lb).length = j := by rw [fill_length, HN.out, HM.out]; exact HNN.out.symm
          have hYl : (fill lb la).length = j := by rw [fill_length, HN.out, HM.out]; have := HNN.out; omega
          have hXu := fill_u64 la lb HUA.out HUB.out
          have hYu := fill_u64 lb la HUB.out HUA.out
          obtain ⟨X, hX⟩ : ∃ X, X = fill la lb := ⟨_, rfl⟩
          obtain ⟨Y, hY⟩ : ∃ Y, Y = fill lb la := ⟨_, rfl⟩
          rw [← hX] at hXl hXu hxa
          rw [← hY] at hYl hYu hxb
          have hfin : narrow (fill la lb) (fill lb la) = narrow X Y := by rw [← hX, ← hY]
          obtain ⟨A, hA, lA⟩ := (top_in X hXu).nat
          obtain ⟨B, hB, lB⟩ := (top_in Y hYu).nat
          have ct1 := fun w h => ref_Top j X aa c w hXl hkc (own_cap HOA.out) (by omega) hXu h
          have ct2 := fun w h => ref_Top j Y bb c2 w hYl hkc2 (own_cap hob) (by omega) hYu h
          rw [hA] at ct1
          rw [hB] at ct2
          have hfin2 : narrow (fill la lb) (fill lb la) = if A = B then (-1, 1) else (((nd tieI X Y).1 : Int), ((nd tieI X Y).2 : Int) + 1) := by
            rw [hfin]
            unfold narrow
            rw [hA, hB]
            by_cases e : A = B
            · rw [if_pos e, if_pos (by rw [e])]
            · rw [if_neg e, if_neg (by omega)]
          have cap1 := own_cap HOA.out
          have cap2 := own_cap hob
          have CT1 := Lib.hid ct1
          have CT2 := Lib.hid ct2
          have HXA := Lib.hid hxa
          have HXB := Lib.hid hxb
          have HXL := Lib.hid hXl
          have HYL := Lib.hid hYl
          have HXU := Lib.hid hXu
          have HYU := Lib.hid hYu
          have HF := Lib.hid hfin2
          clear ek hob hX hY hA hB hfin hfin2 ct1 ct2 hxa hxb hXl hYl hXu hYu HOA HOB HNE HG HG2 HNK C1 C2
          go_wp2_with fail
          refine (CT1.out _ HXA.out).mono ?_
          rintro e w3 ⟨rfl, hb3⟩
          replace HXA := Lib.hid (HXA.out.below hb3)
          replace HXB := Lib.hid (HXB.out.below hb3)
          replace hbw := hbw.trans (hb3.mono hbw.size)
          clear hb3 CT1
          go_wp2_with fail
          refine (CT2.out _ HXB.out).mono ?_
          rintro e w4 ⟨rfl, hb3⟩
          replace HXA := Lib.hid (HXA.out.below hb3)
          replace HXB := Lib.hid (HXB.out.below hb3)
          replace hbw := hbw.trans (hb3.mono hbw.size)
          clear hb3 CT2
          by_cases e : A = B
          · have he : ((A : Int) == (B : Int)) = true := by simp [e]
            have HF2 := Lib.hid (HF.out.trans (if_pos e))
            clear e
            go_wp2_with fail
            go_ret2
            exact ⟨by rw [HF2.out]; rfl, hbw⟩
          · have he : ((A : Int) == (B : Int)) = false := by rw [beq_eq_false_iff_ne]; omega
            have HF2 := Lib.hid (HF.out.trans (if_neg e))
            clear e HF
            go_wp2_with fail
            obtain ⟨F1, hF1⟩ : ∃ F, F = (nd tieI X Y).1 := ⟨_, rfl⟩
            obtain ⟨F2, hF2⟩ : ∃ F, F = (nd tieI X Y).2 + 1 := ⟨_, rfl⟩
            have HF1 := Lib.hid hF1
            have HF22 := Lib.hid hF2
            have hF3 : narrow (fill la lb) (fill lb la) = ((F1 : Int), (F2 : Int)) := by rw [HF2.out, HF1.out, HF22.out]; simp
            have HF3 := Lib.hid hF3
            clear hF1 hF2 hF3
            go_loopg [0, 1, 6, 7, 8] j (fun gk sa sb sat sask _ wx => ∃ (L ca cb at_ ask : Nat) (xa xb : Option Addr) (X Y : List Int), gk = L ∧ 1 ≤ L ∧ X.length = L ∧ Y.length = L ∧ sa = .slice xa L ca ∧ L ≤ ca ∧ ca ≤ 9223372036854775807 ∧ sb = .slice xb L cb ∧ L ≤ cb ∧ cb ≤ 9223372036854775807 ∧ sat = .int .i64 at_ ∧ sask = .int .i64 ask ∧ at_ + L ≤ 4096 ∧ ask + L ≤ 4097 ∧ U64s X ∧ U64s Y ∧ IntsAt .u64 wx xa X ∧ IntsAt .u64 wx xb Y ∧ at_ + (nd tieI X Y).1 = F1 ∧ ask + (nd tieI X Y).2 = F2 ∧ Below w.heap.size w wx)
            case atStart => exact ⟨j, c, c2, 0, 1, aa, bb, X, Y, rfl, by omega, HXL.out, HYL.out, rfl, hkc, cap1, rfl, hkc2, cap2, rfl, rfl, by omega, by omega, HXU.out, HYU.out, HXA.out, HXB.out, by rw [HF1.out]; omega, by rw [HF22.out]; omega, hbw⟩
            case round =>
              clear HXL HYL HXU HYU HXA HXB hbw hkc hkc2 cap1 cap2
              obtain ⟨L, ca, cb, at_, ask, xa, xb, X, Y, hg, L1, hXl, hYl, rfl, lca, lca2, rfl, lcb, lcb2, rfl, rfl, bat, bask, hXu, hYu, hxa, hxb, hf1, hf2, hbw⟩ := hrel
              have HG := Lib.hid hg
              by_cases q : 1 < L
              · obtain ⟨s1, s2⟩ := hf_spec L (by omega)
                have s3 := hf_pos L
                have hh := ref_half L (by omega) (by omega)
                have hnd := nd_two tieI X Y (by omega)
                rw [hXl] at hnd
                obtain ⟨k, hk⟩ : ∃ k, k = hf L := ⟨_, rfl⟩
                rw [← hk] at s1 s2 s3 hh hnd
                obtain ⟨x, rfl, hx1, hx2⟩ := hxa (by omega)
                obtain ⟨y, rfl, hy1, hy2⟩ := hxb (by omega)
                obtain ⟨A1, hA1, lA1⟩ := (top_in (X.take k) (hXu.take k)).nat
                obtain ⟨B1, hB1, lB1⟩ := (top_in (Y.take k) (hYu.take k)).nat
                have ct1 : ∀ w' : World, IntsAt .u64 w' (some x) X → Calls Try.prog 78 #[.slice (some x) k ca] w' fun e w2 => e = .returned (.int .u64 A1) ∧ Below w'.heap.size w' w2 := fun w' h => by
                  rw [← hA1]; exact ref_Top k (X.take k) (some x) ca w' (by simp; omega) (by omega) lca2 (by omega) (hXu.take k) (h.take k)
                have ct2 : ∀ w' : World, IntsAt .u64 w' (some y) Y → Calls Try.prog 78 #[.slice (some y) k cb] w' fun e w2 => e = .returned (.int .u64 B1) ∧ Below w'.heap.size w' w2 := fun w' h => by
                  rw [← hB1]; exact ref_Top k (Y.take k) (some y) cb w' (by simp; omega) (by omega) lcb2 (by omega) (hYu.take k) (h.take k)
                rw [hA1, hB1] at hnd
                have HH := Lib.hid hh
                have CT1 := Lib.hid ct1
                have CT2 := Lib.hid ct2
                have HND := Lib.hid hnd
                have HXA := Lib.hid hxa
                have HXB := Lib.hid hxb
                have HXU := Lib.hid hXu
                have HYU := Lib.hid hYu
                have HXL := Lib.hid hXl
                have HYL := Lib.hid hYl
                have HE1 := Lib.hid hf1
                have HE2 := Lib.hid hf2
                have z1 : k ≤ ca := by omega
                have z2 : k ≤ cb := by omega
                have z3 : ¬ ca = k := by omega
                have z4 : ¬ cb = k := by omega
                have z5 : k ≤ L := by omega
                clear hh hnd hk hx2 hy2 hA1 hB1 ct1 ct2 hxa hxb hXu hYu hXl hYl hf1 hf2 hg
                by_cases e1 : A1 = B1
                · have hb : ((A1 : Int) == (B1 : Int)) = true := by simp [e1]
                  have hb' : ((A1 : Int) != (B1 : Int)) = false := by simp [e1]
                  have hnd2 := HND.out.trans (if_neg (by rw [e1]; simp))
                  have HND2 := Lib.hid hnd2
                  clear HND hnd2
                  go_wp2_with (go_at_call 97; refine (HH.out _).mono ?_; rintro e w1 ⟨rfl, rfl⟩)
                  go_region_held3 (fun w' => IntsAt .u64 w' (some x) X ∧ IntsAt .u64 w' (some y) Y ∧ Below w.heap.size w w')
                    (first | exact ⟨HXA.out.drew, HXB.out.drew, hbw.drew⟩ | exact keepII (by assumption) (by assumption) (Nat.le_refl _))
                    (first
                      | (go_at_call 78; (with_reducible refine (CT1.out _ (oneI (by assumption))).mono ?_); rintro e w8 ⟨rfl, hb8⟩)
                      | (go_at_call 78; (with_reducible refine (CT2.out _ (twoI (by assumption))).mono ?_); rintro e w9 ⟨rfl, hb9⟩))
                  rename_i hheld
                  obtain ⟨hxa2, hxb2, hbw2⟩ := hheld
                  clear hbw
                  go_wp2_with (go_quiet (fail))
                  go_roundg (L - k)
                  case measure => rw [HG.out]; omega
                  case rel =>
                    have ha3 := hxa2.cut k ca (by rw [HXL.out]; exact lca)
                    have hb3 := hxb2.cut k cb (by rw [HYL.out]; exact lcb)
                    rw [if_neg z3] at ha3
                    rw [if_neg z4] at hb3
                    have g1 := HE1.out
                    have g2 := HE2.out
                    rw [HND2.out] at g1 g2
                    exact ⟨L - k, ca - k, cb - k, at_ + k, ask + 1, _, _, X.drop k, Y.drop k, rfl, by omega, by rw [List.length_drop, HXL.out], by rw [List.length_drop, HYL.out], rfl, by omega, by omega, rfl, by omega, by omega, by simp, by simp, by omega, by omega, HXU.out.drop k, HYU.out.drop k, ha3, hb3, by simp only at g1; omega, by simp only at g2; omega, below_drewN hbw2 _⟩
                · have hb : ((A1 : Int) == (B1 : Int)) = false := by rw [beq_eq_false_iff_ne]; omega
                  have hb' : ((A1 : Int) != (B1 : Int)) = true := by rw [bne_iff_ne]; omega
                  have hnd2 := HND.out.trans (if_pos (by omega))
                  have HND2 := Lib.hid hnd2
                  clear HND hnd2
                  go_wp2_with (go_at_call 97; refine (HH.out _).mono ?_; rintro e w1 ⟨rfl, rfl⟩)
                  go_region_held3 (fun w' => IntsAt .u64 w' (some x) X ∧ IntsAt .u64 w' (some y) Y ∧ Below w.heap.size w w')
                    (first | exact ⟨HXA.out.drew, HXB.out.drew, hbw.drew⟩ | exact keepII (by assumption) (by assumption) (Nat.le_refl _))
                    (first
                      | (go_at_call 78; (with_reducible refine (CT1.out _ (oneI (by assumption))).mono ?_); rintro e w8 ⟨rfl, hb8⟩)
                      | (go_at_call 78; (with_reducible refine (CT2.out _ (twoI (by assumption))).mono ?_); rintro e w9 ⟨rfl, hb9⟩))
                  rename_i hheld
                  obtain ⟨hxa2, hxb2, hbw2⟩ := hheld
                  clear hbw
                  go_wp2_with (go_quiet (fail))
                  go_roundg k
                  case measure => rw [HG.out]; omega
                  case rel =>
                    have g1 := HE1.out
                    have g2 := HE2.out
                    rw [HND2.out] at g1 g2
                    exact ⟨k, ca, cb, at_, ask + 1, _, _, X.take k, Y.take k, rfl, by omega, by rw [List.length_take, HXL.out]; omega, by rw [List.length_take, HYL.out]; omega, rfl, by omega, by omega, rfl, by omega, by omega, rfl, by simp, by omega, by omega, HXU.out.take k, HYU.out.take k, hxa2.take k, hxb2.take k, by simp only at g1; omega, by simp only at g2; omega, below_drewN hbw2 _⟩
              · obtain rfl : L = 1 := by omega
                have e1 := nd_one tieI X Y (by omega)
                rw [e1] at hf1 hf2
                have HE1 := Lib.hid hf1
                have HE2 := Lib.hid hf2
                clear e1 hf1 hf2 hXl hYl hxa hxb hg
                go_wp2_with fail
                go_ret2
                have g1 := HE1.out
                have g2 := HE2.out
                refine ⟨?_, hbw⟩
                rw [HF3.out, ← g1, ← g2]
                rfl
end Go.Proofs.Ytdhaaeaacbnghaa
