/- slices.symMergeCmpFunc at integers: one run of one element. -/
import Derived.Test.YtlahmcbaiebapaaStabW
import Derived.Test.YtlahmcbaiebapaaW64
namespace Go.Proofs.Ytlahmcbaiebapaa
open Go.ChangeShapes Go.WideShapes Go.ChangeAt Go.RowKit Go.Mem Go.Sb
set_option linter.unusedVariables false
def MPost (K : Int → Int) (g : Nat) (W0 : World) (P A B S : List Int) (e : Ending) (w' : World) : Prop := ∃ M, Merged K A B M ∧ SPost g W0 (P ++ M ++ S) e w'
/-- A half: what 'int(uint(i+j) >> 1)' computes. -/
theorem half_facts (i j : Nat) (h : i + j ≤ 4194304) : ∃ s h : Nat, (i : Int) + (j : Int) = (s : Int) ∧ IntKind.u64.wrap (s : Int) = (s : Int) ∧ (s : Int) / 2 = (h : Int) ∧ IntKind.i64.wrap (h : Int) = (h : Int) ∧ h = (i + j) / 2 := by
  refine ⟨i + j, (i + j) / 2, by omega, ?_, by omega, ?_, rfl⟩
  · exact W64.u_in _ (by omega)
  · rw [IntKind.wrap_i64]; omega
theorem runs_in {K : Int → Int} {D P A B S : List Int} {a m b n : Nat} (h : Runs K D P A B S a m b) (hr : InR n (A ++ B)) {c : Nat} (h1 : a ≤ c) (h2 : c < b) : 0 ≤ D.getD c 0 ∧ D.getD c 0 < (n : Int) := by
  have := h.hm; have := h.hb
  by_cases hc : c < m
  · rw [h.left h1 hc]; exact hr _ (List.mem_append_left _ (getD_mem (by omega)))
  · rw [h.right (by omega) h2]; exact hr _ (List.mem_append_right _ (getD_mem (by omega)))
theorem key_mono {K : Int → Int} {x y : Int} (h : lt K x y) : K x ≤ K y := by unfold lt at h; omega

theorem run_r1 {K : Int → Int} {D P A B S : List Int} {a m b t : Nat} (h : Runs K D P A B S a m b) {y : Int} (hy : y ∈ B.take t) : ∃ d, m ≤ d ∧ d < m + t ∧ d < b ∧ y = D.getD d 0 := by
  have hb := h.hb
  obtain ⟨i, hi, rfl⟩ := List.getElem_of_mem hy
  simp at hi
  refine ⟨m + i, by omega, by omega, by omega, ?_⟩
  rw [h.right (by omega) (by omega), List.getElem_take, show m + i - m = i by omega, List.getD_eq_getElem?_getD, List.getElem?_eq_getElem (by omega)]; rfl
theorem run_r2 {K : Int → Int} {D P A B S : List Int} {a m b t : Nat} (h : Runs K D P A B S a m b) {y : Int} (hy : y ∈ B.drop t) : ∃ d, m + t ≤ d ∧ d < b ∧ y = D.getD d 0 := by
  have hb := h.hb
  obtain ⟨i, hi, rfl⟩ := List.getElem_of_mem hy
  simp at hi
  refine ⟨m + t + i, by omega, by omega, ?_⟩
  rw [h.right (by omega) (by omega), List.getElem_drop, show m + t + i - m = t + i by omega, List.getD_eq_getElem?_getD, List.getElem?_eq_getElem (by omega)]; rfl
theorem run_l1 {K : Int → Int} {D P A B S : List Int} {a m b t : Nat} (h : Runs K D P A B S a m b) {y : Int} (hy : y ∈ A.take t) : ∃ d, a ≤ d ∧ d < a + t ∧ d < m ∧ y = D.getD d 0 := by
  have hm := h.hm
  obtain ⟨i, hi, rfl⟩ := List.getElem_of_mem hy
  simp at hi
  refine ⟨a + i, by omega, by omega, by omega, ?_⟩
  rw [h.left (by omega) (by omega), List.getElem_take, show a + i - a = i by omega, List.getD_eq_getElem?_getD, List.getElem?_eq_getElem (by omega)]; rfl
theorem run_l2 {K : Int → Int} {D P A B S : List Int} {a m b t : Nat} (h : Runs K D P A B S a m b) {y : Int} (hy : y ∈ A.drop t) : ∃ d, a + t ≤ d ∧ d < m ∧ y = D.getD d 0 := by
  have hm := h.hm
  obtain ⟨i, hi, rfl⟩ := List.getElem_of_mem hy
  simp at hi
  refine ⟨a + t + i, by omega, by omega, ?_⟩
  rw [h.left (by omega) (by omega), List.getElem_drop, show a + t + i - a = t + i by omega, List.getD_eq_getElem?_getD, List.getElem?_eq_getElem (by omega)]; rfl

set_option maxRecDepth 100000 in
set_option maxHeartbeats 8000000 in
theorem sym_left (fid : Nat) (caps : Array Value) (K : Int → Int) (n g : Nat) (W0 : World) (hc : CmpOk fid caps K n g W0) (he : ∀ args w, (callFunc fid args).run Try.prog w = .ok (.enter fid args) w) (D P A B S : List Int) (a m b N c : Nat) (hR : Runs K D P A B S a m b) (hA : A.length = 1) (hN : D.length = N) (h1 : N ≤ 1048576)
    (hr : InR n (A ++ B)) (w : World) (hs : StS g W0 w D) :
    Calls Try.prog 122 #[.slice (some ⟨g, 0, none⟩) N c, .int .i64 (a : Int), .int .i64 (m : Int), .int .i64 (b : Int), .func (.func fid) #[] caps] w (MPost K g W0 P A B S) := by
  have hma : m = a + 1 := by have := hR.hm; omega
  have hmb : m ≤ b := by have := hR.hb; omega
  have hbN : b ≤ N := by have := hR.len; omega
  obtain ⟨x, hx⟩ : ∃ x, x = D.getD a 0 := ⟨_, rfl⟩
  have hAx : A = [x] := by
    have h2 := hR.left (c := a) (Nat.le_refl _) (by omega)
    rw [Nat.sub_self] at h2
    match A, hA with
    | [y], _ => rw [hx, h2]; rfl
  have e0 : (m : Int) - (a : Int) = 1 := by omega
  have hxr := runs_in hR hr (Nat.le_refl a) (by omega)
  rw [← hx] at hxr
  have HC := Lib.hid hc
  have HR := Lib.hid hR
  have HIN := Lib.hid hr
  have HN := Lib.hid hN
  have HS := Lib.hid hs
  have HX := Lib.hid hx
  have HXR := Lib.hid hxr
  have HAX := Lib.hid hAx
  have hma1 : a < m := by omega
  have HMA := Lib.hid hma
  clear hc hR hr hN hs hx hxr hAx hma hA
  go_enter Try.func122, Try.ntmps122
  go_wp2_with fail
  go_loopg [10, 11, 12] (b - m) (fun gk vi vj _ wx => ∃ (i j : Nat), gk = j - i ∧ vi = .int .i64 i ∧ vj = .int .i64 j ∧ m ≤ i ∧ i ≤ j ∧ j ≤ b ∧ (∀ d, m ≤ d → d < i → K (D.getD d 0) < K x) ∧ (∀ d, j ≤ d → d < b → ¬ K (D.getD d 0) < K x) ∧ StS g W0 wx D)
  case atStart => exact ⟨m, b, rfl, rfl, rfl, Nat.le_refl _, hmb, Nat.le_refl _, fun d h2 h3 => by omega, fun d h2 h3 => by omega, HS.out⟩
  case round =>
    clear HS
    obtain ⟨i, j, g2, rfl, rfl, hi, hij, hj, hlo, hhi, hst⟩ := hrel
    have G2 := Lib.hid g2
    have HLO := Lib.hid hlo
    have HHI := Lib.hid hhi
    have HS := Lib.hid hst
    clear g2 hlo hhi hst
    by_cases hlt : i < j
    · obtain ⟨s, h, f1, f2, f3, f4, f5⟩ := half_facts i j (by omega)
      have hh1 : i ≤ h := by omega
      have hh2 : h < j := by omega
      have HH := Lib.hid f5
      obtain ⟨y, hy⟩ : ∃ y, y = D.getD h 0 := ⟨_, rfl⟩
      have cx := HS.out.1.cell a (by rw [HN.out]; omega)
      have cy := HS.out.1.cell h (by rw [HN.out]; omega)
      rw [← HX.out] at cx
      rw [← hy] at cy
      have HC2 := Lib.hid (show Cells2 g W0 D h a y x wr from ⟨HS.out, cy, cx⟩)
      have hyr : 0 ≤ y ∧ y < (n : Int) := by rw [hy]; exact runs_in HR.out HIN.out (by omega) (by omega)
      obtain ⟨q, hq⟩ : ∃ q, q = cmN K y x := ⟨_, rfl⟩
      have CC := fun w1 (hw : Cells2 g W0 D h a y x w1) => HC.out.call y x w1 hyr HXR.out hw.st.2
      rw [← hq] at CC
      have HCC := Lib.hid CC
      have HQ := Lib.hid (show q < 0 ↔ K y < K x by rw [hq]; exact cmN_lt K y x)
      have HY := Lib.hid hy
      have a0 : (0 : Int) ≤ (a : Int) := by omega
      have a1 : (a : Int) < (N : Int) := by omega
      have b0 : (0 : Int) ≤ (h : Int) := by omega
      have b1 : (h : Int) < (N : Int) := by omega
      clear f5 hy hyr hq CC
      by_cases hcq : q < 0
      · have HK := Lib.hid (show ∀ d, m ≤ d → d < h + 1 → K (D.getD d 0) < K x from fun d h2 h3 => by
          have h4 := HQ.out.1 hcq
          rw [HY.out] at h4
          by_cases e : d = h
          · rw [e]; exact h4
          · have := key_mono (HR.out.mono_r (c := d) (d := h) h2 (by omega) (by omega))
            omega)
        go_wp2_with fail
        go_region_held3 (fun w' => w'.cell? ⟨g, h, none⟩ = some (.int .i64 y) ∧ w'.cell? ⟨g, a, none⟩ = some (.int .i64 x) ∧ Cells2 g W0 D h a y x w')
          (first | exact ⟨HC2.out.cx, HC2.out.cy, HC2.out.below (Below.refl _ _).drew⟩ | assumption | exact keep_c2 (by assumption) (by assumption))
          ((refine (HCC.out _ (And.right (And.right (by assumption)))).mono ?_; rintro e w8 ⟨rfl, hb8⟩))
        rename_i hHeld
        have HS2 := Lib.hid hHeld.2.2.st
        clear hHeld hb8 cx cy HC2 HCC
        go_wp2_with fail
        go_roundg (j - (h + 1))
        case measure => rw [G2.out]; omega
        case rel => exact ⟨h + 1, j, rfl, by go_num, rfl, by omega, by omega, hj, HK.out, HHI.out, HS2.out⟩
      · have HK := Lib.hid (show ∀ d, h ≤ d → d < b → ¬ K (D.getD d 0) < K x from fun d h2 h3 => by
          have h4 : ¬ K y < K x := fun h5 => hcq (HQ.out.2 h5)
          rw [HY.out] at h4
          by_cases e : d = h
          · rw [e]; exact h4
          · have := key_mono (HR.out.mono_r (c := h) (d := d) (by omega) (by omega) h3)
            omega)
        go_wp2_with fail
        go_region_held3 (fun w' => w'.cell? ⟨g, h, none⟩ = some (.int .i64 y) ∧ w'.cell? ⟨g, a, none⟩ = some (.int .i64 x) ∧ Cells2 g W0 D h a y x w')
          (first | exact ⟨HC2.out.cx, HC2.out.cy, HC2.out.below (Below.refl _ _).drew⟩ | assumption | exact keep_c2 (by assumption) (by assumption))
          ((refine (HCC.out _ (And.right (And.right (by assumption)))).mono ?_; rintro e w8 ⟨rfl, hb8⟩))
        rename_i hHeld
        have HS2 := Lib.hid hHeld.2.2.st
        clear hHeld hb8 cx cy HC2 HCC
        go_wp2_with fail
        go_roundg (h - i)
        case measure => rw [G2.out]; omega
        case rel => exact ⟨i, h, rfl, rfl, rfl, hi, hh1, by omega, HLO.out, HK.out, HS2.out⟩
    · obtain rfl : i = j := by omega
      obtain ⟨T, hT⟩ : ∃ T, T = i - m := ⟨_, rfl⟩
      obtain ⟨I1, hI1⟩ : ∃ I1, I1 = i - 1 := ⟨_, rfl⟩
      have hTB : T ≤ B.length := by have := HR.out.hb; omega
      have hI1T : I1 = a + T := by have := HMA.out; omega
      have HMG := Lib.hid (show Merged K A B (B.take T ++ x :: B.drop T) by
        have hsb := HR.out.sb
        rw [← List.take_append_drop T B] at hsb
        have := merged_one (x := x) hsb (fun y hy => by
          obtain ⟨d, d1, d2, d3, rfl⟩ := run_r1 HR.out hy
          exact .inl (HLO.out d d1 (by omega))) (fun y hy => by
          obtain ⟨d, d1, d2, rfl⟩ := run_r2 HR.out hy
          have hix := HR.out.ixlt (c := a) (d := d) (Nat.le_refl _) hma1 (by omega) d2
          rw [← HX.out] at hix
          exact (lt_left hix).2 (HHI.out d (by omega) d2))
        rw [List.take_append_drop] at this
        rw [HAX.out]; exact this)
      have HEQ := Lib.hid (show D = P ++ (B.take 0 ++ x :: (B.take T).drop 0) ++ B.drop T ++ S by
        rw [HR.out.eq, HAX.out]
        conv => lhs; rw [← List.take_append_drop T B]
        simp)
      have e1 : (i : Int) - 1 = (I1 : Int) := by omega
      have HTB := Lib.hid hTB
      have HPL := Lib.hid HR.out.ha
      have HIT := Lib.hid hI1T
      have hIN : I1 + 1 ≤ N := by omega
      obtain ⟨wo, rfl⟩ : ∃ wo : World, wo = wr := ⟨_, rfl⟩
      clear hT hI1 hTB hI1T HLO HHI G2
      go_wp2_with fail
      go_loopg [13] T (fun gk vk wx => ∃ (t k : Nat), gk = T - t ∧ t ≤ T ∧ k = a + t ∧ vk = .int .i64 k ∧ StS g W0 wx (P ++ ((B.take T).take t ++ x :: (B.take T).drop t) ++ B.drop T ++ S))
      case atStart => exact ⟨0, a, rfl, Nat.zero_le _, rfl, rfl, by have := HS.out; rw [HEQ.out] at this; simpa using this⟩
      case round =>
        clear HS
        obtain ⟨t, k, g3, htT, hk, rfl, hst⟩ := hrel
        have G3 := Lib.hid g3
        have HS := Lib.hid hst
        have HK := Lib.hid hk
        have hk1 : k ≤ a + t := by omega
        have hk2 : a + t ≤ k := by omega
        have hi1 : I1 ≤ a + T := by rw [HIT.out]; exact Nat.le_refl _
        have hi2 : a + T ≤ I1 := by rw [HIT.out]; exact Nat.le_refl _
        clear g3 hst hk
        by_cases htl : t < T
        · have hTl : (B.take T).length = T := by rw [List.length_take]; have := HTB.out; omega
          have hdr := drop_at (A := B.take T) (k := t) (by omega)
          have htk := take_at (A := B.take T) (k := t) (by omega)
          obtain ⟨z, hz⟩ : ∃ z, z = (B.take T).getD t 0 := ⟨_, rfl⟩
          rw [← hz] at hdr htk
          have hlen : (P ++ ((B.take T).take t ++ x :: (B.take T).drop t) ++ B.drop T ++ S).length = N := by
            have h3 := HN.out
            rw [HEQ.out] at h3
            have h4 : ((B.take T).take t).length + ((B.take T).drop t).length = T := by rw [← List.length_append, List.take_append_drop]; exact hTl
            simp at h3 h4 ⊢
            omega
          obtain ⟨n1, n2, n3, _, n5⟩ := near_swap (D := P ++ ((B.take T).take t ++ x :: (B.take T).drop t) ++ B.drop T ++ S) (L := P ++ (B.take T).take t) (R := (B.take T).drop (t + 1) ++ B.drop T ++ S) (u := x) (v := z) (k := k) (by rw [hdr]; simp) (by rw [List.length_append, HPL.out, List.length_take, hTl]; omega)
          have HNX := Lib.hid (show P ++ (B.take T).take t ++ z :: x :: ((B.take T).drop (t + 1) ++ B.drop T ++ S) = P ++ ((B.take T).take (t + 1) ++ x :: (B.take T).drop (t + 1)) ++ B.drop T ++ S by rw [htk]; simp)
          obtain ⟨E, hE⟩ : ∃ E, E = P ++ ((B.take T).take t ++ x :: (B.take T).drop t) ++ B.drop T ++ S := ⟨_, rfl⟩
          rw [← hE] at n1 n2 n3 n5 hlen HS
          have cx := HS.out.1.cell k (by omega)
          have cz := HS.out.1.cell (k + 1) n5
          have fx := HS.out.1.frozen k
          have fz := HS.out.1.frozen (k + 1)
          rw [n1] at cx
          rw [n2] at cz
          have HN3 := Lib.hid n3
          obtain ⟨k9, hk9⟩ : ∃ k9, k9 = k + 1 := ⟨_, rfl⟩
          rw [← hk9] at cz fz HN3
          rw [hlen] at n5
          have e2 : (k : Int) + 1 = (k9 : Int) := by omega
          have e3 : IntKind.i64.wrap ((k : Int) + 1) = (k9 : Int) := by rw [e2, IntKind.wrap_i64]; omega
          have k0 : (0 : Int) ≤ (k : Int) := by omega
          have k1 : (k : Int) < (N : Int) := by omega
          have k3 : (0 : Int) ≤ (k9 : Int) := by omega
          have k4 : (k9 : Int) < (N : Int) := by omega
          have hne : k ≠ k9 := by omega
          have hk9' : k9 ≤ k + 1 := by omega
          have hk9'' : k + 1 ≤ k9 := by omega
          clear hdr htk hz n1 n2 n3 hE hlen hTl hk9 n5
          go_wp2_with fail
          go_region
          have hs2 := ((HS.out.set k z).set k9 x).drew
          rw [HN3.out, HNX.out] at hs2
          have HS2 := Lib.hid hs2
          clear hs2
          go_wp2_with fail
          go_roundg (T - (t + 1))
          case measure => rw [G3.out]; omega
          case rel => exact ⟨t + 1, k9, rfl, by omega, by omega, by go_num, HS2.out⟩
        · have HFIN := Lib.hid (show P ++ ((B.take T).take t ++ x :: (B.take T).drop t) ++ B.drop T ++ S = P ++ (B.take T ++ x :: B.drop T) ++ S by
            have hTl : (B.take T).length = T := by rw [List.length_take]; have := HTB.out; omega
            rw [List.take_of_length_le (by omega), List.drop_eq_nil_of_le (by omega)]; simp)
          go_wp2_with fail
          go_end0
          exact ⟨_, HMG.out, rfl, by rw [← HFIN.out]; exact HS.out⟩
end Go.Proofs.Ytlahmcbaiebapaa
